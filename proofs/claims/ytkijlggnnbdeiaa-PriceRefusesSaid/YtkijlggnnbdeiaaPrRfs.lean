/- parolelaw42.PriceRefuses, walked -/
import Derived.Test.YtkijlggnnbdeiaaPrEx
import Derived.Test.YtkijlggnnbdeiaaProg
set_option linter.unusedVariables false
set_option linter.unusedSimpArgs false
namespace Go.Proofs.Ytkijlggnnbdeiaa
open Go.RowKit
set_option maxRecDepth 100000

theorem good_no {n : Int} (h : n < 1 ∨ 2 < n) : idxF (isC n) [(⟨1, 3, 1⟩ : Ac), (⟨2, 3, 1⟩ : Ac)] < 0 := by
  rw [idx_neg' (by simp [isC]; omega)]; decide
theorem good_v {n : Int} (h : n < 1 ∨ 2 < n) : stl [(⟨1, 3, 1⟩ : Ac), (⟨2, 3, 1⟩ : Ac)] n 1 1 1 = ([], 0, 0, 4) := stl_none (by kernel_rfl) (by kernel_rfl) (by decide) (.inl (good_no h))
theorem good_w {n : Int} (h : n < 1 ∨ 2 < n) : stl [(⟨1, 3, 1⟩ : Ac), (⟨2, 3, 1⟩ : Ac)] 1 n 1 1 = ([], 0, 0, 4) := stl_none (by kernel_rfl) (by kernel_rfl) (by decide) (.inr (good_no h))
theorem bonE_bad {l : List An} {L : List Rk} {f base : Int} (h : f < 0 ∨ 7 < f) : bonE l L f base = 1 := by unfold bonE; rw [if_pos (by omega)]
theorem opnE_bad {l : List An} {L : List Rk} {n base : Int} (h : n < 1 ∨ 8 < n) : opnE l L n base = 1 := by unfold opnE; rw [if_pos h]
theorem preE_bad {x : An} {n : Int} (h : n < 0 ∨ 1000000 < n) : preE x 0 1 n = 1 := by
  unfold preE; rw [if_pos]; unfold wrongR; rw [decide_eq_true]; omega
set_option maxHeartbeats 1000000 in
theorem pi12_42   : FnF Try.prog 12 true [.int .i64 3] (.agg [.int .i64 3, .int .i64 1]) :=
  fn_evF (by kernel_rfl) Try.func12 (by kernel_rfl) 400
      [.d, .d, .d, .d]
      (by kernel_rfl) (ob := [(3 : Int) = 3,
        (1 : Int) = 1]) (by kernel_rfl)
      ⟨rfl, rfl, trivial⟩

set_option maxHeartbeats 1000000 in
theorem pi23_43   : FnF Try.prog 23 true [.list [.agg [.int .i64 2, .int .i64 3, .int .i64 1], .agg [.int .i64 1, .int .i64 3, .int .i64 1]]] (.agg [.int .i64 0, .int .i64 0, .int .i64 1]) :=
  fn_evF (by kernel_rfl) Try.func23 (by kernel_rfl) 400
      [.d, .d, .f true (.tuple [.agg [.int .i64 0, .int .i64 0], .int .i64 1]), .d, .d, .d, .d, .d, .d, .d, .d, .d, .d]
      (by kernel_rfl) (ob := [FnF Try.prog 44 true [.list [.agg [.int .i64 2, .int .i64 3, .int .i64 1], .agg [.int .i64 1, .int .i64 3, .int .i64 1]]] (.tuple [.agg [.int .i64 0, .int .i64 0], .int .i64 1]),
        (0 : Int) = 0,
        (0 : Int) = 0,
        (1 : Int) = 1]) (by kernel_rfl)
      ⟨(by have h := pr_total (a := [(⟨2, 3, 1⟩ : Ac), (⟨1, 3, 1⟩ : Ac)]) (by simp [BdC]) (by decide); rw [show (.tuple [.agg [.int .i64 (totN [(⟨2, 3, 1⟩ : Ac), (⟨1, 3, 1⟩ : Ac)]), .int .i64 (totD [(⟨2, 3, 1⟩ : Ac), (⟨1, 3, 1⟩ : Ac)])], .int .i64 (totE [(⟨2, 3, 1⟩ : Ac), (⟨1, 3, 1⟩ : Ac)])] : AV) = .tuple [.agg [.int .i64 0, .int .i64 0], .int .i64 1] from by kernel_rfl] at h; exact h), rfl, rfl, rfl, trivial⟩

set_option maxHeartbeats 1000000 in
theorem pi19_44 {B R : List Int} {bs n k : Int} (hB : U8L B) (hBl : B.length ≤ 9223372036854775807) (hR : U8L R) (hRl : R.length ≤ 9223372036854775807) (hbs : 0 ≤ bs ∧ bs ≤ 65535) (hn : -9223372036854775808 ≤ n ∧ n ≤ 9223372036854775807) (hk : 0 ≤ k ∧ k ≤ 255) (kb1 : n < 0 → bonE (bookF B) (riskF R) n 1 = 1) (kb2 : 7 < n → bonE (bookF B) (riskF R) n 1 = 1) (ko1 : n < 1 → opnE (bookF B) (riskF R) n 1 = 1) (ko2 : 8 < n → opnE (bookF B) (riskF R) n 1 = 1) (kp1 : n < 0 → preE (cntQ (bookF B) 1) 0 1 n = 1) (kp2 : 1000000 < n → preE (cntQ (bookF B) 1) 0 1 n = 1) (krl : (riskF R).length < 1000000) (k6 : 0 ≤ k % 6 ∧ k % 6 ≤ 5) (q1 : k % 6 = 0) : FnF Try.prog 19 true [.list [.agg [.int .i64 2, .int .i64 3, .int .i64 1], .agg [.int .i64 1, .int .i64 3, .int .i64 1]], .list ((bookF B).map encQ), .list ((riskF R).map encK), .int .i64 1] (.agg [.list [], .int .i64 1]) :=
  fn_evF (by kernel_rfl) Try.func19 (by kernel_rfl) 400
      [.d, .d, .d, .d, .d, .f true (.tuple [.list [], .int .i64 1]), .d, .d, .d, .d, .d, .d, .d, .d, .d]
      (by kernel_rfl) (ob := [FnF Try.prog 42 true [.list [.agg [.int .i64 2, .int .i64 3, .int .i64 1], .agg [.int .i64 1, .int .i64 3, .int .i64 1]], .list ((bookF B).map encQ), .list ((riskF R).map encK), .int .i64 1] (.tuple [.list [], .int .i64 1]),
        ([] : List AV) = [],
        ([] : List AV) = [],
        (1 : Int) = 1]) (by kernel_rfl)
      ⟨(by have h := pr_short (a := [(⟨2, 3, 1⟩ : Ac), (⟨1, 3, 1⟩ : Ac)]) (l := bookF B) (L := riskF R) (base := 1) (by simp [BdC]) (by decide) (book_right hB) (by omega) (by decide); rw [shoL, shoE, if_neg (by decide), if_neg (by decide)] at h; exact h), rfl, rfl, rfl, trivial⟩

set_option maxHeartbeats 1000000 in
theorem pi18_45   : FnF Try.prog 18 true [.list [.agg [.int .i64 2, .int .i64 3, .int .i64 1], .agg [.int .i64 1, .int .i64 3, .int .i64 1]], .agg [.int .i64 0, .int .i64 1, .int .i64 0, .int .i64 0], .int .i64 2, .agg [.int .i64 1, .int .i64 1]] (.agg [.list [], .int .i64 0, .int .i64 0, .int .i64 1]) :=
  fn_evF (by kernel_rfl) Try.func18 (by kernel_rfl) 400
      [.d, .d, .d, .d, .d, .d, .d, .f true (.tuple [.list [], .agg [.int .i64 0, .int .i64 0], .int .i64 1]), .d, .d, .d, .d, .d, .d, .d, .d, .d, .d, .d, .d, .d]
      (by kernel_rfl) (ob := [FnF Try.prog 41 true [.list [.agg [.int .i64 2, .int .i64 3, .int .i64 1], .agg [.int .i64 1, .int .i64 3, .int .i64 1]], .agg [.int .i64 0, .int .i64 1, .int .i64 0, .int .i64 0], .int .i64 2, .agg [.int .i64 1, .int .i64 1]] (.tuple [.list [], .agg [.int .i64 0, .int .i64 0], .int .i64 1]),
        ([] : List AV) = [],
        ([] : List AV) = [],
        (0 : Int) = 0,
        (0 : Int) = 0,
        (1 : Int) = 1]) (by kernel_rfl)
      ⟨(by have h := pr_settle (a := [(⟨2, 3, 1⟩ : Ac), (⟨1, 3, 1⟩ : Ac)]) (v := 1) (w := 2) (ln := 1) (ld := 1) (v0 := 0) (v2 := 0) (v3 := 0) (by simp [BdC]) (by decide) (by decide) (by decide) (by decide) (by decide); rw [show (.tuple [.list ((stl [(⟨2, 3, 1⟩ : Ac), (⟨1, 3, 1⟩ : Ac)] 1 2 1 1).1.map encC), .agg [.int .i64 ((stl [(⟨2, 3, 1⟩ : Ac), (⟨1, 3, 1⟩ : Ac)] 1 2 1 1).2.1), .int .i64 ((stl [(⟨2, 3, 1⟩ : Ac), (⟨1, 3, 1⟩ : Ac)] 1 2 1 1).2.2.1)], .int .i64 ((stl [(⟨2, 3, 1⟩ : Ac), (⟨1, 3, 1⟩ : Ac)] 1 2 1 1).2.2.2)] : AV) = .tuple [.list [], .agg [.int .i64 0, .int .i64 0], .int .i64 1] from by kernel_rfl] at h; exact h), rfl, rfl, rfl, rfl, rfl, trivial⟩

set_option maxHeartbeats 1000000 in
theorem pi18_46 {B R : List Int} {bs n k : Int} (hB : U8L B) (hBl : B.length ≤ 9223372036854775807) (hR : U8L R) (hRl : R.length ≤ 9223372036854775807) (hbs : 0 ≤ bs ∧ bs ≤ 65535) (hn : -9223372036854775808 ≤ n ∧ n ≤ 9223372036854775807) (hk : 0 ≤ k ∧ k ≤ 255) (kb1 : n < 0 → bonE (bookF B) (riskF R) n 1 = 1) (kb2 : 7 < n → bonE (bookF B) (riskF R) n 1 = 1) (ko1 : n < 1 → opnE (bookF B) (riskF R) n 1 = 1) (ko2 : 8 < n → opnE (bookF B) (riskF R) n 1 = 1) (kp1 : n < 0 → preE (cntQ (bookF B) 1) 0 1 n = 1) (kp2 : 1000000 < n → preE (cntQ (bookF B) 1) 0 1 n = 1) (krl : (riskF R).length < 1000000) (k6 : 0 ≤ k % 6 ∧ k % 6 ≤ 5) (q1 : n < 1) : FnF Try.prog 18 true [.list [.agg [.int .i64 1, .int .i64 3, .int .i64 1], .agg [.int .i64 2, .int .i64 3, .int .i64 1]], .agg [.int .i64 0, .int .i64 n, .int .i64 0, .int .i64 0], .int .i64 1, .agg [.int .i64 1, .int .i64 1]] (.agg [.list [], .int .i64 0, .int .i64 0, .int .i64 4]) :=
  fn_evF (by kernel_rfl) Try.func18 (by kernel_rfl) 400
      [.d, .d, .d, .d, .d, .d, .d, .f true (.tuple [.list [], .agg [.int .i64 0, .int .i64 0], .int .i64 4]), .d, .d, .d, .d, .d, .d, .d, .d, .d, .d, .d, .d, .d]
      (by kernel_rfl) (ob := [FnF Try.prog 41 true [.list [.agg [.int .i64 1, .int .i64 3, .int .i64 1], .agg [.int .i64 2, .int .i64 3, .int .i64 1]], .agg [.int .i64 0, .int .i64 n, .int .i64 0, .int .i64 0], .int .i64 1, .agg [.int .i64 1, .int .i64 1]] (.tuple [.list [], .agg [.int .i64 0, .int .i64 0], .int .i64 4]),
        ([] : List AV) = [],
        ([] : List AV) = [],
        (0 : Int) = 0,
        (0 : Int) = 0,
        (4 : Int) = 4]) (by kernel_rfl)
      ⟨(by have h := pr_settle (a := [(⟨1, 3, 1⟩ : Ac), (⟨2, 3, 1⟩ : Ac)]) (v := n) (w := 1) (ln := 1) (ld := 1) (v0 := 0) (v2 := 0) (v3 := 0) (by simp [BdC]) (by decide) (by omega) (by omega) (by decide) (by decide); rw [good_v (.inl (by omega))] at h; exact h), rfl, rfl, rfl, rfl, rfl, trivial⟩

set_option maxHeartbeats 1000000 in
theorem pi18_47 {B R : List Int} {bs n k : Int} (hB : U8L B) (hBl : B.length ≤ 9223372036854775807) (hR : U8L R) (hRl : R.length ≤ 9223372036854775807) (hbs : 0 ≤ bs ∧ bs ≤ 65535) (hn : -9223372036854775808 ≤ n ∧ n ≤ 9223372036854775807) (hk : 0 ≤ k ∧ k ≤ 255) (kb1 : n < 0 → bonE (bookF B) (riskF R) n 1 = 1) (kb2 : 7 < n → bonE (bookF B) (riskF R) n 1 = 1) (ko1 : n < 1 → opnE (bookF B) (riskF R) n 1 = 1) (ko2 : 8 < n → opnE (bookF B) (riskF R) n 1 = 1) (kp1 : n < 0 → preE (cntQ (bookF B) 1) 0 1 n = 1) (kp2 : 1000000 < n → preE (cntQ (bookF B) 1) 0 1 n = 1) (krl : (riskF R).length < 1000000) (k6 : 0 ≤ k % 6 ∧ k % 6 ≤ 5) (q1 : n < 1) : FnF Try.prog 18 true [.list [.agg [.int .i64 1, .int .i64 3, .int .i64 1], .agg [.int .i64 2, .int .i64 3, .int .i64 1]], .agg [.int .i64 0, .int .i64 1, .int .i64 0, .int .i64 0], .int .i64 n, .agg [.int .i64 1, .int .i64 1]] (.agg [.list [], .int .i64 0, .int .i64 0, .int .i64 4]) :=
  fn_evF (by kernel_rfl) Try.func18 (by kernel_rfl) 400
      [.d, .d, .d, .d, .d, .d, .d, .f true (.tuple [.list [], .agg [.int .i64 0, .int .i64 0], .int .i64 4]), .d, .d, .d, .d, .d, .d, .d, .d, .d, .d, .d, .d, .d]
      (by kernel_rfl) (ob := [FnF Try.prog 41 true [.list [.agg [.int .i64 1, .int .i64 3, .int .i64 1], .agg [.int .i64 2, .int .i64 3, .int .i64 1]], .agg [.int .i64 0, .int .i64 1, .int .i64 0, .int .i64 0], .int .i64 n, .agg [.int .i64 1, .int .i64 1]] (.tuple [.list [], .agg [.int .i64 0, .int .i64 0], .int .i64 4]),
        ([] : List AV) = [],
        ([] : List AV) = [],
        (0 : Int) = 0,
        (0 : Int) = 0,
        (4 : Int) = 4]) (by kernel_rfl)
      ⟨(by have h := pr_settle (a := [(⟨1, 3, 1⟩ : Ac), (⟨2, 3, 1⟩ : Ac)]) (v := 1) (w := n) (ln := 1) (ld := 1) (v0 := 0) (v2 := 0) (v3 := 0) (by simp [BdC]) (by decide) (by omega) (by omega) (by decide) (by decide); rw [good_w (.inl (by omega))] at h; exact h), rfl, rfl, rfl, rfl, rfl, trivial⟩

set_option maxHeartbeats 1000000 in
theorem pi18_48   : FnF Try.prog 18 true [.list [.agg [.int .i64 1, .int .i64 3, .int .i64 1], .agg [.int .i64 2, .int .i64 3, .int .i64 1]], .agg [.int .i64 0, .int .i64 1, .int .i64 0, .int .i64 0], .int .i64 2, .agg [.int .i64 (-1), .int .i64 1]] (.agg [.list [], .int .i64 0, .int .i64 0, .int .i64 1]) :=
  fn_evF (by kernel_rfl) Try.func18 (by kernel_rfl) 400
      [.d, .d, .d, .d, .d, .d, .d, .f true (.tuple [.list [], .agg [.int .i64 0, .int .i64 0], .int .i64 1]), .d, .d, .d, .d, .d, .d, .d, .d, .d, .d, .d, .d, .d]
      (by kernel_rfl) (ob := [FnF Try.prog 41 true [.list [.agg [.int .i64 1, .int .i64 3, .int .i64 1], .agg [.int .i64 2, .int .i64 3, .int .i64 1]], .agg [.int .i64 0, .int .i64 1, .int .i64 0, .int .i64 0], .int .i64 2, .agg [.int .i64 (-1), .int .i64 1]] (.tuple [.list [], .agg [.int .i64 0, .int .i64 0], .int .i64 1]),
        ([] : List AV) = [],
        ([] : List AV) = [],
        (0 : Int) = 0,
        (0 : Int) = 0,
        (1 : Int) = 1]) (by kernel_rfl)
      ⟨(by have h := pr_settle (a := [(⟨1, 3, 1⟩ : Ac), (⟨2, 3, 1⟩ : Ac)]) (v := 1) (w := 2) (ln := (-1)) (ld := 1) (v0 := 0) (v2 := 0) (v3 := 0) (by simp [BdC]) (by decide) (by decide) (by decide) (by decide) (by decide); rw [show (.tuple [.list ((stl [(⟨1, 3, 1⟩ : Ac), (⟨2, 3, 1⟩ : Ac)] 1 2 (-1) 1).1.map encC), .agg [.int .i64 ((stl [(⟨1, 3, 1⟩ : Ac), (⟨2, 3, 1⟩ : Ac)] 1 2 (-1) 1).2.1), .int .i64 ((stl [(⟨1, 3, 1⟩ : Ac), (⟨2, 3, 1⟩ : Ac)] 1 2 (-1) 1).2.2.1)], .int .i64 ((stl [(⟨1, 3, 1⟩ : Ac), (⟨2, 3, 1⟩ : Ac)] 1 2 (-1) 1).2.2.2)] : AV) = .tuple [.list [], .agg [.int .i64 0, .int .i64 0], .int .i64 1] from by kernel_rfl] at h; exact h), rfl, rfl, rfl, rfl, rfl, trivial⟩

set_option maxHeartbeats 1000000 in
theorem pi18_49   : FnF Try.prog 18 true [.list [.agg [.int .i64 1, .int .i64 3, .int .i64 1], .agg [.int .i64 2, .int .i64 3, .int .i64 1]], .agg [.int .i64 0, .int .i64 1, .int .i64 0, .int .i64 0], .int .i64 2, .agg [.int .i64 0, .int .i64 0]] (.agg [.list [], .int .i64 0, .int .i64 0, .int .i64 1]) :=
  fn_evF (by kernel_rfl) Try.func18 (by kernel_rfl) 400
      [.d, .d, .d, .d, .d, .d, .d, .f true (.tuple [.list [], .agg [.int .i64 0, .int .i64 0], .int .i64 1]), .d, .d, .d, .d, .d, .d, .d, .d, .d, .d, .d, .d, .d]
      (by kernel_rfl) (ob := [FnF Try.prog 41 true [.list [.agg [.int .i64 1, .int .i64 3, .int .i64 1], .agg [.int .i64 2, .int .i64 3, .int .i64 1]], .agg [.int .i64 0, .int .i64 1, .int .i64 0, .int .i64 0], .int .i64 2, .agg [.int .i64 0, .int .i64 0]] (.tuple [.list [], .agg [.int .i64 0, .int .i64 0], .int .i64 1]),
        ([] : List AV) = [],
        ([] : List AV) = [],
        (0 : Int) = 0,
        (0 : Int) = 0,
        (1 : Int) = 1]) (by kernel_rfl)
      ⟨(by have h := pr_settle (a := [(⟨1, 3, 1⟩ : Ac), (⟨2, 3, 1⟩ : Ac)]) (v := 1) (w := 2) (ln := 0) (ld := 0) (v0 := 0) (v2 := 0) (v3 := 0) (by simp [BdC]) (by decide) (by decide) (by decide) (by decide) (by decide); rw [show (.tuple [.list ((stl [(⟨1, 3, 1⟩ : Ac), (⟨2, 3, 1⟩ : Ac)] 1 2 0 0).1.map encC), .agg [.int .i64 ((stl [(⟨1, 3, 1⟩ : Ac), (⟨2, 3, 1⟩ : Ac)] 1 2 0 0).2.1), .int .i64 ((stl [(⟨1, 3, 1⟩ : Ac), (⟨2, 3, 1⟩ : Ac)] 1 2 0 0).2.2.1)], .int .i64 ((stl [(⟨1, 3, 1⟩ : Ac), (⟨2, 3, 1⟩ : Ac)] 1 2 0 0).2.2.2)] : AV) = .tuple [.list [], .agg [.int .i64 0, .int .i64 0], .int .i64 1] from by kernel_rfl] at h; exact h), rfl, rfl, rfl, rfl, rfl, trivial⟩

set_option maxHeartbeats 1000000 in
theorem pi17_50 {B R : List Int} {bs n k : Int} (hB : U8L B) (hBl : B.length ≤ 9223372036854775807) (hR : U8L R) (hRl : R.length ≤ 9223372036854775807) (hbs : 0 ≤ bs ∧ bs ≤ 65535) (hn : -9223372036854775808 ≤ n ∧ n ≤ 9223372036854775807) (hk : 0 ≤ k ∧ k ≤ 255) (kb1 : n < 0 → bonE (bookF B) (riskF R) n 1 = 1) (kb2 : 7 < n → bonE (bookF B) (riskF R) n 1 = 1) (ko1 : n < 1 → opnE (bookF B) (riskF R) n 1 = 1) (ko2 : 8 < n → opnE (bookF B) (riskF R) n 1 = 1) (kp1 : n < 0 → preE (cntQ (bookF B) 1) 0 1 n = 1) (kp2 : 1000000 < n → preE (cntQ (bookF B) 1) 0 1 n = 1) (krl : (riskF R).length < 1000000) (k6 : 0 ≤ k % 6 ∧ k % 6 ≤ 5) (q1 : n < 1) (q2 : n ≥ 0) : FnF Try.prog 17 false [.list ((bookF B).map encQ), .list ((riskF R).map encK), .int .i64 n, .int .i64 1] (.agg [.list ((opnL (bookF B) (riskF R) n 1).map encC), .int .i64 0, .int .i64 0, .int .i64 (opnE (bookF B) (riskF R) n 1)]) :=
  fn_evF (by kernel_rfl) Try.func17 (by kernel_rfl) 400
      [.d, .d, .d, .d, .d, .f true (.tuple [.list ((opnL (bookF B) (riskF R) n 1).map encC), .int .i64 (opnE (bookF B) (riskF R) n 1)]), .d, .d, .d, .d, .d, .d, .d, .d, .d]
      (by kernel_rfl) (ob := [FnF Try.prog 40 true [.list ((bookF B).map encQ), .list ((riskF R).map encK), .int .i64 n, .int .i64 1] (.tuple [.list ((opnL (bookF B) (riskF R) n 1).map encC), .int .i64 (opnE (bookF B) (riskF R) n 1)]),
        ((opnL (bookF B) (riskF R) n 1).map encC : List AV) = (opnL (bookF B) (riskF R) n 1).map encC,
        (0 : Int) = 0,
        (0 : Int) = 0,
        (opnE (bookF B) (riskF R) n 1 : Int) = opnE (bookF B) (riskF R) n 1]) (by kernel_rfl)
      ⟨pr_open (l := bookF B) (L := riskF R) (m := n) (base := 1) (book_right hB) (by omega) (by omega) (by omega), rfl, rfl, rfl, rfl, trivial⟩

set_option maxHeartbeats 1000000 in
theorem pi15_51 {B R : List Int} {bs n k : Int} (hB : U8L B) (hBl : B.length ≤ 9223372036854775807) (hR : U8L R) (hRl : R.length ≤ 9223372036854775807) (hbs : 0 ≤ bs ∧ bs ≤ 65535) (hn : -9223372036854775808 ≤ n ∧ n ≤ 9223372036854775807) (hk : 0 ≤ k ∧ k ≤ 255) (kb1 : n < 0 → bonE (bookF B) (riskF R) n 1 = 1) (kb2 : 7 < n → bonE (bookF B) (riskF R) n 1 = 1) (ko1 : n < 1 → opnE (bookF B) (riskF R) n 1 = 1) (ko2 : 8 < n → opnE (bookF B) (riskF R) n 1 = 1) (kp1 : n < 0 → preE (cntQ (bookF B) 1) 0 1 n = 1) (kp2 : 1000000 < n → preE (cntQ (bookF B) 1) 0 1 n = 1) (krl : (riskF R).length < 1000000) (k6 : 0 ≤ k % 6 ∧ k % 6 ≤ 5) (q1 : n < 1) (q2 : ¬ (n ≥ 0)) : FnF Try.prog 15 true [.list ((bookF B).map encQ), .list ((riskF R).map encK), .int .i64 n, .int .i64 1] (.agg [.int .i64 (bonN (bookF B) (riskF R) n 1), .int .i64 (bonD (bookF B) (riskF R) n 1), .int .i64 (bonE (bookF B) (riskF R) n 1)]) :=
  fn_evF (by kernel_rfl) Try.func15 (by kernel_rfl) 400
      [.d, .d, .d, .d, .d, .f true (.tuple [.agg [.int .i64 (bonN (bookF B) (riskF R) n 1), .int .i64 (bonD (bookF B) (riskF R) n 1)], .int .i64 (bonE (bookF B) (riskF R) n 1)]), .d, .d, .d, .d, .d, .d, .d, .d, .d, .d]
      (by kernel_rfl) (ob := [FnF Try.prog 33 true [.list ((bookF B).map encQ), .list ((riskF R).map encK), .int .i64 n, .int .i64 1] (.tuple [.agg [.int .i64 (bonN (bookF B) (riskF R) n 1), .int .i64 (bonD (bookF B) (riskF R) n 1)], .int .i64 (bonE (bookF B) (riskF R) n 1)]),
        (bonN (bookF B) (riskF R) n 1 : Int) = bonN (bookF B) (riskF R) n 1,
        (bonD (bookF B) (riskF R) n 1 : Int) = bonD (bookF B) (riskF R) n 1,
        (bonE (bookF B) (riskF R) n 1 : Int) = bonE (bookF B) (riskF R) n 1]) (by kernel_rfl)
      ⟨pr_bond (l := bookF B) (L := riskF R) (f := n) (base := 1) (book_right hB) (by omega) (by omega) (by omega), rfl, rfl, rfl, trivial⟩

set_option maxHeartbeats 1000000 in
theorem pi17_52 {B R : List Int} {bs n k : Int} (hB : U8L B) (hBl : B.length ≤ 9223372036854775807) (hR : U8L R) (hRl : R.length ≤ 9223372036854775807) (hbs : 0 ≤ bs ∧ bs ≤ 65535) (hn : -9223372036854775808 ≤ n ∧ n ≤ 9223372036854775807) (hk : 0 ≤ k ∧ k ≤ 255) (kb1 : n < 0 → bonE (bookF B) (riskF R) n 1 = 1) (kb2 : 7 < n → bonE (bookF B) (riskF R) n 1 = 1) (ko1 : n < 1 → opnE (bookF B) (riskF R) n 1 = 1) (ko2 : 8 < n → opnE (bookF B) (riskF R) n 1 = 1) (kp1 : n < 0 → preE (cntQ (bookF B) 1) 0 1 n = 1) (kp2 : 1000000 < n → preE (cntQ (bookF B) 1) 0 1 n = 1) (krl : (riskF R).length < 1000000) (k6 : 0 ≤ k % 6 ∧ k % 6 ≤ 5) (q1 : n < 1) (q2 : ¬ (n ≥ 0)) : FnF Try.prog 17 false [.list ((bookF B).map encQ), .list ((riskF R).map encK), .int .i64 n, .int .i64 1] (.agg [.list ((opnL (bookF B) (riskF R) n 1).map encC), .int .i64 0, .int .i64 0, .int .i64 (opnE (bookF B) (riskF R) n 1)]) :=
  fn_evF (by kernel_rfl) Try.func17 (by kernel_rfl) 400
      [.d, .d, .d, .d, .d, .f true (.tuple [.list ((opnL (bookF B) (riskF R) n 1).map encC), .int .i64 (opnE (bookF B) (riskF R) n 1)]), .d, .d, .d, .d, .d, .d, .d, .d, .d]
      (by kernel_rfl) (ob := [FnF Try.prog 40 true [.list ((bookF B).map encQ), .list ((riskF R).map encK), .int .i64 n, .int .i64 1] (.tuple [.list ((opnL (bookF B) (riskF R) n 1).map encC), .int .i64 (opnE (bookF B) (riskF R) n 1)]),
        ((opnL (bookF B) (riskF R) n 1).map encC : List AV) = (opnL (bookF B) (riskF R) n 1).map encC,
        (0 : Int) = 0,
        (0 : Int) = 0,
        (opnE (bookF B) (riskF R) n 1 : Int) = opnE (bookF B) (riskF R) n 1]) (by kernel_rfl)
      ⟨pr_open (l := bookF B) (L := riskF R) (m := n) (base := 1) (book_right hB) (by omega) (by omega) (by omega), rfl, rfl, rfl, rfl, trivial⟩

set_option maxHeartbeats 1000000 in
theorem pi11_53 {B R : List Int} {bs n k : Int} (hB : U8L B) (hBl : B.length ≤ 9223372036854775807) (hR : U8L R) (hRl : R.length ≤ 9223372036854775807) (hbs : 0 ≤ bs ∧ bs ≤ 65535) (hn : -9223372036854775808 ≤ n ∧ n ≤ 9223372036854775807) (hk : 0 ≤ k ∧ k ≤ 255) (kb1 : n < 0 → bonE (bookF B) (riskF R) n 1 = 1) (kb2 : 7 < n → bonE (bookF B) (riskF R) n 1 = 1) (ko1 : n < 1 → opnE (bookF B) (riskF R) n 1 = 1) (ko2 : 8 < n → opnE (bookF B) (riskF R) n 1 = 1) (kp1 : n < 0 → preE (cntQ (bookF B) 1) 0 1 n = 1) (kp2 : 1000000 < n → preE (cntQ (bookF B) 1) 0 1 n = 1) (krl : (riskF R).length < 1000000) (k6 : 0 ≤ k % 6 ∧ k % 6 ≤ 5) (q1 : n < 1) (q2 : ¬ (n ≥ 0)) : FnF Try.prog 11 true [.list ((bookF B).map encQ), .agg [.int .i64 0, .int .i64 1, .int .i64 n]] (.agg [.int .i64 (preN (cntQ (bookF B) 1) 0 1 n), .int .i64 (preD (cntQ (bookF B) 1) 0 1 n), .int .i64 (preE (cntQ (bookF B) 1) 0 1 n)]) :=
  fn_evF (by kernel_rfl) Try.func11 (by kernel_rfl) 400
      [.d, .d, .d, .d, .f true (.tuple [.agg [.int .i64 (preN (cntQ (bookF B) 1) 0 1 n), .int .i64 (preD (cntQ (bookF B) 1) 0 1 n)], .int .i64 (preE (cntQ (bookF B) 1) 0 1 n)]), .d, .d, .d, .d, .d, .d, .d, .d, .d, .d]
      (by kernel_rfl) (ob := [FnF Try.prog 30 true [.list ((bookF B).map encQ), .agg [.int .i64 0, .int .i64 1, .int .i64 n]] (.tuple [.agg [.int .i64 (preN (cntQ (bookF B) 1) 0 1 n), .int .i64 (preD (cntQ (bookF B) 1) 0 1 n)], .int .i64 (preE (cntQ (bookF B) 1) 0 1 n)]),
        (preN (cntQ (bookF B) 1) 0 1 n : Int) = preN (cntQ (bookF B) 1) 0 1 n,
        (preD (cntQ (bookF B) 1) 0 1 n : Int) = preD (cntQ (bookF B) 1) 0 1 n,
        (preE (cntQ (bookF B) 1) 0 1 n : Int) = preE (cntQ (bookF B) 1) 0 1 n]) (by kernel_rfl)
      ⟨pr_premium (l := bookF B) (fi := 0) (k := 1) (c := n) (book_right hB) (by omega) (by omega) (by omega), rfl, rfl, rfl, trivial⟩

set_option maxHeartbeats 1000000 in
theorem pi18_54 {B R : List Int} {bs n k : Int} (hB : U8L B) (hBl : B.length ≤ 9223372036854775807) (hR : U8L R) (hRl : R.length ≤ 9223372036854775807) (hbs : 0 ≤ bs ∧ bs ≤ 65535) (hn : -9223372036854775808 ≤ n ∧ n ≤ 9223372036854775807) (hk : 0 ≤ k ∧ k ≤ 255) (kb1 : n < 0 → bonE (bookF B) (riskF R) n 1 = 1) (kb2 : 7 < n → bonE (bookF B) (riskF R) n 1 = 1) (ko1 : n < 1 → opnE (bookF B) (riskF R) n 1 = 1) (ko2 : 8 < n → opnE (bookF B) (riskF R) n 1 = 1) (kp1 : n < 0 → preE (cntQ (bookF B) 1) 0 1 n = 1) (kp2 : 1000000 < n → preE (cntQ (bookF B) 1) 0 1 n = 1) (krl : (riskF R).length < 1000000) (k6 : 0 ≤ k % 6 ∧ k % 6 ≤ 5) (q1 : ¬ (n < 1)) (q2 : n > 2) : FnF Try.prog 18 true [.list [.agg [.int .i64 1, .int .i64 3, .int .i64 1], .agg [.int .i64 2, .int .i64 3, .int .i64 1]], .agg [.int .i64 0, .int .i64 n, .int .i64 0, .int .i64 0], .int .i64 1, .agg [.int .i64 1, .int .i64 1]] (.agg [.list [], .int .i64 0, .int .i64 0, .int .i64 4]) :=
  fn_evF (by kernel_rfl) Try.func18 (by kernel_rfl) 400
      [.d, .d, .d, .d, .d, .d, .d, .f true (.tuple [.list [], .agg [.int .i64 0, .int .i64 0], .int .i64 4]), .d, .d, .d, .d, .d, .d, .d, .d, .d, .d, .d, .d, .d]
      (by kernel_rfl) (ob := [FnF Try.prog 41 true [.list [.agg [.int .i64 1, .int .i64 3, .int .i64 1], .agg [.int .i64 2, .int .i64 3, .int .i64 1]], .agg [.int .i64 0, .int .i64 n, .int .i64 0, .int .i64 0], .int .i64 1, .agg [.int .i64 1, .int .i64 1]] (.tuple [.list [], .agg [.int .i64 0, .int .i64 0], .int .i64 4]),
        ([] : List AV) = [],
        ([] : List AV) = [],
        (0 : Int) = 0,
        (0 : Int) = 0,
        (4 : Int) = 4]) (by kernel_rfl)
      ⟨(by have h := pr_settle (a := [(⟨1, 3, 1⟩ : Ac), (⟨2, 3, 1⟩ : Ac)]) (v := n) (w := 1) (ln := 1) (ld := 1) (v0 := 0) (v2 := 0) (v3 := 0) (by simp [BdC]) (by decide) (by omega) (by omega) (by decide) (by decide); rw [good_v (.inr (by omega))] at h; exact h), rfl, rfl, rfl, rfl, rfl, trivial⟩

set_option maxHeartbeats 1000000 in
theorem pi18_55 {B R : List Int} {bs n k : Int} (hB : U8L B) (hBl : B.length ≤ 9223372036854775807) (hR : U8L R) (hRl : R.length ≤ 9223372036854775807) (hbs : 0 ≤ bs ∧ bs ≤ 65535) (hn : -9223372036854775808 ≤ n ∧ n ≤ 9223372036854775807) (hk : 0 ≤ k ∧ k ≤ 255) (kb1 : n < 0 → bonE (bookF B) (riskF R) n 1 = 1) (kb2 : 7 < n → bonE (bookF B) (riskF R) n 1 = 1) (ko1 : n < 1 → opnE (bookF B) (riskF R) n 1 = 1) (ko2 : 8 < n → opnE (bookF B) (riskF R) n 1 = 1) (kp1 : n < 0 → preE (cntQ (bookF B) 1) 0 1 n = 1) (kp2 : 1000000 < n → preE (cntQ (bookF B) 1) 0 1 n = 1) (krl : (riskF R).length < 1000000) (k6 : 0 ≤ k % 6 ∧ k % 6 ≤ 5) (q1 : ¬ (n < 1)) (q2 : n > 2) : FnF Try.prog 18 true [.list [.agg [.int .i64 1, .int .i64 3, .int .i64 1], .agg [.int .i64 2, .int .i64 3, .int .i64 1]], .agg [.int .i64 0, .int .i64 1, .int .i64 0, .int .i64 0], .int .i64 n, .agg [.int .i64 1, .int .i64 1]] (.agg [.list [], .int .i64 0, .int .i64 0, .int .i64 4]) :=
  fn_evF (by kernel_rfl) Try.func18 (by kernel_rfl) 400
      [.d, .d, .d, .d, .d, .d, .d, .f true (.tuple [.list [], .agg [.int .i64 0, .int .i64 0], .int .i64 4]), .d, .d, .d, .d, .d, .d, .d, .d, .d, .d, .d, .d, .d]
      (by kernel_rfl) (ob := [FnF Try.prog 41 true [.list [.agg [.int .i64 1, .int .i64 3, .int .i64 1], .agg [.int .i64 2, .int .i64 3, .int .i64 1]], .agg [.int .i64 0, .int .i64 1, .int .i64 0, .int .i64 0], .int .i64 n, .agg [.int .i64 1, .int .i64 1]] (.tuple [.list [], .agg [.int .i64 0, .int .i64 0], .int .i64 4]),
        ([] : List AV) = [],
        ([] : List AV) = [],
        (0 : Int) = 0,
        (0 : Int) = 0,
        (4 : Int) = 4]) (by kernel_rfl)
      ⟨(by have h := pr_settle (a := [(⟨1, 3, 1⟩ : Ac), (⟨2, 3, 1⟩ : Ac)]) (v := 1) (w := n) (ln := 1) (ld := 1) (v0 := 0) (v2 := 0) (v3 := 0) (by simp [BdC]) (by decide) (by omega) (by omega) (by decide) (by decide); rw [good_w (.inr (by omega))] at h; exact h), rfl, rfl, rfl, rfl, rfl, trivial⟩

set_option maxHeartbeats 1000000 in
theorem pi15_56 {B R : List Int} {bs n k : Int} (hB : U8L B) (hBl : B.length ≤ 9223372036854775807) (hR : U8L R) (hRl : R.length ≤ 9223372036854775807) (hbs : 0 ≤ bs ∧ bs ≤ 65535) (hn : -9223372036854775808 ≤ n ∧ n ≤ 9223372036854775807) (hk : 0 ≤ k ∧ k ≤ 255) (kb1 : n < 0 → bonE (bookF B) (riskF R) n 1 = 1) (kb2 : 7 < n → bonE (bookF B) (riskF R) n 1 = 1) (ko1 : n < 1 → opnE (bookF B) (riskF R) n 1 = 1) (ko2 : 8 < n → opnE (bookF B) (riskF R) n 1 = 1) (kp1 : n < 0 → preE (cntQ (bookF B) 1) 0 1 n = 1) (kp2 : 1000000 < n → preE (cntQ (bookF B) 1) 0 1 n = 1) (krl : (riskF R).length < 1000000) (k6 : 0 ≤ k % 6 ∧ k % 6 ≤ 5) (q1 : ¬ (n < 1)) (q2 : n > 2) (q3 : ¬ (n ≤ 7)) : FnF Try.prog 15 true [.list ((bookF B).map encQ), .list ((riskF R).map encK), .int .i64 n, .int .i64 1] (.agg [.int .i64 (bonN (bookF B) (riskF R) n 1), .int .i64 (bonD (bookF B) (riskF R) n 1), .int .i64 (bonE (bookF B) (riskF R) n 1)]) :=
  fn_evF (by kernel_rfl) Try.func15 (by kernel_rfl) 400
      [.d, .d, .d, .d, .d, .f true (.tuple [.agg [.int .i64 (bonN (bookF B) (riskF R) n 1), .int .i64 (bonD (bookF B) (riskF R) n 1)], .int .i64 (bonE (bookF B) (riskF R) n 1)]), .d, .d, .d, .d, .d, .d, .d, .d, .d, .d]
      (by kernel_rfl) (ob := [FnF Try.prog 33 true [.list ((bookF B).map encQ), .list ((riskF R).map encK), .int .i64 n, .int .i64 1] (.tuple [.agg [.int .i64 (bonN (bookF B) (riskF R) n 1), .int .i64 (bonD (bookF B) (riskF R) n 1)], .int .i64 (bonE (bookF B) (riskF R) n 1)]),
        (bonN (bookF B) (riskF R) n 1 : Int) = bonN (bookF B) (riskF R) n 1,
        (bonD (bookF B) (riskF R) n 1 : Int) = bonD (bookF B) (riskF R) n 1,
        (bonE (bookF B) (riskF R) n 1 : Int) = bonE (bookF B) (riskF R) n 1]) (by kernel_rfl)
      ⟨pr_bond (l := bookF B) (L := riskF R) (f := n) (base := 1) (book_right hB) (by omega) (by omega) (by omega), rfl, rfl, rfl, trivial⟩

set_option maxHeartbeats 1000000 in
theorem pi17_57 {B R : List Int} {bs n k : Int} (hB : U8L B) (hBl : B.length ≤ 9223372036854775807) (hR : U8L R) (hRl : R.length ≤ 9223372036854775807) (hbs : 0 ≤ bs ∧ bs ≤ 65535) (hn : -9223372036854775808 ≤ n ∧ n ≤ 9223372036854775807) (hk : 0 ≤ k ∧ k ≤ 255) (kb1 : n < 0 → bonE (bookF B) (riskF R) n 1 = 1) (kb2 : 7 < n → bonE (bookF B) (riskF R) n 1 = 1) (ko1 : n < 1 → opnE (bookF B) (riskF R) n 1 = 1) (ko2 : 8 < n → opnE (bookF B) (riskF R) n 1 = 1) (kp1 : n < 0 → preE (cntQ (bookF B) 1) 0 1 n = 1) (kp2 : 1000000 < n → preE (cntQ (bookF B) 1) 0 1 n = 1) (krl : (riskF R).length < 1000000) (k6 : 0 ≤ k % 6 ∧ k % 6 ≤ 5) (q1 : ¬ (n < 1)) (q2 : n > 2) (q3 : ¬ (n ≤ 7)) (q4 : ¬ (n ≤ 8)) : FnF Try.prog 17 false [.list ((bookF B).map encQ), .list ((riskF R).map encK), .int .i64 n, .int .i64 1] (.agg [.list ((opnL (bookF B) (riskF R) n 1).map encC), .int .i64 0, .int .i64 0, .int .i64 (opnE (bookF B) (riskF R) n 1)]) :=
  fn_evF (by kernel_rfl) Try.func17 (by kernel_rfl) 400
      [.d, .d, .d, .d, .d, .f true (.tuple [.list ((opnL (bookF B) (riskF R) n 1).map encC), .int .i64 (opnE (bookF B) (riskF R) n 1)]), .d, .d, .d, .d, .d, .d, .d, .d, .d]
      (by kernel_rfl) (ob := [FnF Try.prog 40 true [.list ((bookF B).map encQ), .list ((riskF R).map encK), .int .i64 n, .int .i64 1] (.tuple [.list ((opnL (bookF B) (riskF R) n 1).map encC), .int .i64 (opnE (bookF B) (riskF R) n 1)]),
        ((opnL (bookF B) (riskF R) n 1).map encC : List AV) = (opnL (bookF B) (riskF R) n 1).map encC,
        (0 : Int) = 0,
        (0 : Int) = 0,
        (opnE (bookF B) (riskF R) n 1 : Int) = opnE (bookF B) (riskF R) n 1]) (by kernel_rfl)
      ⟨pr_open (l := bookF B) (L := riskF R) (m := n) (base := 1) (book_right hB) (by omega) (by omega) (by omega), rfl, rfl, rfl, rfl, trivial⟩

set_option maxHeartbeats 1000000 in
theorem pi11_58 {B R : List Int} {bs n k : Int} (hB : U8L B) (hBl : B.length ≤ 9223372036854775807) (hR : U8L R) (hRl : R.length ≤ 9223372036854775807) (hbs : 0 ≤ bs ∧ bs ≤ 65535) (hn : -9223372036854775808 ≤ n ∧ n ≤ 9223372036854775807) (hk : 0 ≤ k ∧ k ≤ 255) (kb1 : n < 0 → bonE (bookF B) (riskF R) n 1 = 1) (kb2 : 7 < n → bonE (bookF B) (riskF R) n 1 = 1) (ko1 : n < 1 → opnE (bookF B) (riskF R) n 1 = 1) (ko2 : 8 < n → opnE (bookF B) (riskF R) n 1 = 1) (kp1 : n < 0 → preE (cntQ (bookF B) 1) 0 1 n = 1) (kp2 : 1000000 < n → preE (cntQ (bookF B) 1) 0 1 n = 1) (krl : (riskF R).length < 1000000) (k6 : 0 ≤ k % 6 ∧ k % 6 ≤ 5) (q1 : ¬ (n < 1)) (q2 : n > 2) (q3 : ¬ (n ≤ 7)) (q4 : ¬ (n ≤ 8)) (q5 : ¬ (n ≤ 1000000)) : FnF Try.prog 11 true [.list ((bookF B).map encQ), .agg [.int .i64 0, .int .i64 1, .int .i64 n]] (.agg [.int .i64 (preN (cntQ (bookF B) 1) 0 1 n), .int .i64 (preD (cntQ (bookF B) 1) 0 1 n), .int .i64 (preE (cntQ (bookF B) 1) 0 1 n)]) :=
  fn_evF (by kernel_rfl) Try.func11 (by kernel_rfl) 400
      [.d, .d, .d, .d, .f true (.tuple [.agg [.int .i64 (preN (cntQ (bookF B) 1) 0 1 n), .int .i64 (preD (cntQ (bookF B) 1) 0 1 n)], .int .i64 (preE (cntQ (bookF B) 1) 0 1 n)]), .d, .d, .d, .d, .d, .d, .d, .d, .d, .d]
      (by kernel_rfl) (ob := [FnF Try.prog 30 true [.list ((bookF B).map encQ), .agg [.int .i64 0, .int .i64 1, .int .i64 n]] (.tuple [.agg [.int .i64 (preN (cntQ (bookF B) 1) 0 1 n), .int .i64 (preD (cntQ (bookF B) 1) 0 1 n)], .int .i64 (preE (cntQ (bookF B) 1) 0 1 n)]),
        (preN (cntQ (bookF B) 1) 0 1 n : Int) = preN (cntQ (bookF B) 1) 0 1 n,
        (preD (cntQ (bookF B) 1) 0 1 n : Int) = preD (cntQ (bookF B) 1) 0 1 n,
        (preE (cntQ (bookF B) 1) 0 1 n : Int) = preE (cntQ (bookF B) 1) 0 1 n]) (by kernel_rfl)
      ⟨pr_premium (l := bookF B) (fi := 0) (k := 1) (c := n) (book_right hB) (by omega) (by omega) (by omega), rfl, rfl, rfl, trivial⟩

def mP_refuses_all_t0 (B : List Int) (R : List Int) (bs : Int) : List Blk := [.cells [.list (B.map enc8), .list (R.map enc8), .int .u16 bs], .cells [.int .i64 1, .int .i64 3, .int .i64 1], .cells [.int .i64 2, .int .i64 3, .int .i64 1], .row 3 [.agg [.int .i64 2, .int .i64 3, .int .i64 1], .agg [.int .i64 1, .int .i64 3, .int .i64 1]] 0, .row 3 [.agg [.int .i64 1, .int .i64 3, .int .i64 1], .agg [.int .i64 1, .int .i64 3, .int .i64 1]] 0, .row 3 [.agg [.int .i64 1, .int .i64 3, .int .i64 1], .agg [.int .i64 9, .int .i64 1, .int .i64 1]] 0, .row 3 [.agg [.int .i64 0, .int .i64 (-1), .int .i64 1]] 0, .row 3 [.agg [.int .i64 0, .int .i64 2, .int .i64 2]] 0, .row 3 [.agg [.int .i64 (-1), .int .i64 1, .int .i64 1]] 0, .row 1 [.slice 3 0 2 0, .slice 4 0 2 0, .slice 5 0 2 0, .slice 6 0 1 0, .slice 7 0 1 0, .slice 8 0 1 0] 0, .row 3 [.agg [.int .i64 1, .int .i64 3, .int .i64 1], .agg [.int .i64 2, .int .i64 3, .int .i64 1]] 0]
set_option maxHeartbeats 1000000 in
theorem refuses_all_t0 {B R : List Int} {bs n k : Int} (hB : U8L B) (hBl : B.length ≤ 9223372036854775807) (hR : U8L R) (hRl : R.length ≤ 9223372036854775807) (hbs : 0 ≤ bs ∧ bs ≤ 65535) (hn : -9223372036854775808 ≤ n ∧ n ≤ 9223372036854775807) (hk : 0 ≤ k ∧ k ≤ 255) : Ok 0 Try.prog (cE (codeE Try.f8) [true, true, true, true, true, true, true, true, true]) (stX .any 167 [(1, .int .i64 n), (6, .bool false), (7, .bool true), (8, .list ((bookF B).map encQ)), (9, .list ((riskF R).map encK)), (10, .ptr 1 0), (11, .ptr 2 0)] [.cells [.list (B.map enc8), .list (R.map enc8), .int .u16 bs], .cells [.int .i64 1, .int .i64 3, .int .i64 1], .cells [.int .i64 2, .int .i64 3, .int .i64 1], .row 3 [.agg [.int .i64 2, .int .i64 3, .int .i64 1], .agg [.int .i64 1, .int .i64 3, .int .i64 1]] 0, .row 3 [.agg [.int .i64 1, .int .i64 3, .int .i64 1], .agg [.int .i64 1, .int .i64 3, .int .i64 1]] 0, .row 3 [.agg [.int .i64 1, .int .i64 3, .int .i64 1], .agg [.int .i64 9, .int .i64 1, .int .i64 1]] 0, .row 3 [.agg [.int .i64 0, .int .i64 (-1), .int .i64 1]] 0, .row 3 [.agg [.int .i64 0, .int .i64 2, .int .i64 2]] 0, .row 3 [.agg [.int .i64 (-1), .int .i64 1, .int .i64 1]] 0, .row 1 [.slice 3 0 2 0, .slice 4 0 2 0, .slice 5 0 2 0, .slice 6 0 1 0, .slice 7 0 1 0, .slice 8 0 1 0] 0]) (fun e s => (e = .normal ∨ e = .ret) ∧ FinF Try.prog Try.f8 true (.bool true) s) := by
  have kb1 : n < 0 → bonE (bookF B) (riskF R) n 1 = 1 := fun h => bonE_bad (.inl h)
  have kb2 : 7 < n → bonE (bookF B) (riskF R) n 1 = 1 := fun h => bonE_bad (.inr h)
  have ko1 : n < 1 → opnE (bookF B) (riskF R) n 1 = 1 := fun h => opnE_bad (.inl h)
  have ko2 : 8 < n → opnE (bookF B) (riskF R) n 1 = 1 := fun h => opnE_bad (.inr h)
  have kp1 : n < 0 → preE (cntQ (bookF B) 1) 0 1 n = 1 := fun h => preE_bad (.inl h)
  have kp2 : 1000000 < n → preE (cntQ (bookF B) 1) 0 1 n = 1 := fun h => preE_bad (.inr h)
  have krl : (riskF R).length < 1000000 := by have := riskF_len R; omega
  have k6 : 0 ≤ k % 6 ∧ k % 6 ≤ 5 := by omega
  refine Ok.seqP [true, true, true, true, true, true, true, true, true] (by kernel_rfl) ?_
  refine Ok.evf (by kernel_rfl) 400 [.d, .d, .d, .d] [1, 6, 7, 8, 9, 14] 11 (st' := (stX .any 167 [(1, .int .i64 n), (6, .bool false), (7, .bool true), (8, .list ((bookF B).map encQ)), (9, .list ((riskF R).map encK)), (14, .slice 10 0 2 0)] (mP_refuses_all_t0 B R bs))) (e := .normal) (ob := [∀ e ∈ ([.agg [.int .i64 2, .int .i64 3, .int .i64 1], .agg [.int .i64 1, .int .i64 3, .int .i64 1]] : List AV), belowV 11 e = true,
        ∀ e ∈ ([.agg [.int .i64 1, .int .i64 3, .int .i64 1], .agg [.int .i64 1, .int .i64 3, .int .i64 1]] : List AV), belowV 11 e = true,
        ∀ e ∈ ([.agg [.int .i64 1, .int .i64 3, .int .i64 1], .agg [.int .i64 9, .int .i64 1, .int .i64 1]] : List AV), belowV 11 e = true,
        ∀ e ∈ ([.agg [.int .i64 0, .int .i64 (-1), .int .i64 1]] : List AV), belowV 11 e = true,
        ∀ e ∈ ([.agg [.int .i64 0, .int .i64 2, .int .i64 2]] : List AV), belowV 11 e = true,
        ∀ e ∈ ([.agg [.int .i64 (-1), .int .i64 1, .int .i64 1]] : List AV), belowV 11 e = true,
        ∀ e ∈ ([.slice 3 0 2 0, .slice 4 0 2 0, .slice 5 0 2 0, .slice 6 0 1 0, .slice 7 0 1 0, .slice 8 0 1 0] : List AV), belowV 11 e = true,
        ∀ e ∈ ([.agg [.int .i64 1, .int .i64 3, .int .i64 1], .agg [.int .i64 2, .int .i64 3, .int .i64 1]] : List AV), belowV 11 e = true]) (by kernel_rfl) ⟨(by simp [belowV, idsOf, idsL, encQ, encW, encK, encC, encF]), (by simp [belowV, idsOf, idsL, encQ, encW, encK, encC, encF]), (by simp [belowV, idsOf, idsL, encQ, encW, encK, encC, encF]), (by simp [belowV, idsOf, idsL, encQ, encW, encK, encC, encF]), (by simp [belowV, idsOf, idsL, encQ, encW, encK, encC, encF]), (by simp [belowV, idsOf, idsL, encQ, encW, encK, encC, encF]), (by simp [belowV, idsOf, idsL, encQ, encW, encK, encC, encF]), (by simp [belowV, idsOf, idsL, encQ, encW, encK, encC, encF]), trivial⟩ ?_
  refine seq_n ?_
  refine Ok.seqP [true, true, true, true, true, true, true, true, true, true] (by kernel_rfl) ?_
  by_cases q1 : n < 1
  · refine Ok.evf (by kernel_rfl) 400 [.d, .v (.bool true), .d, .d, .d, .d, .d] [1, 6, 7, 8, 9, 14, 15] 11 (st' := (stX .any 167 [(1, .int .i64 n), (6, .bool false), (7, .bool true), (8, .list ((bookF B).map encQ)), (9, .list ((riskF R).map encK)), (14, .slice 10 0 2 0), (15, .bool true)] (mP_refuses_all_t0 B R bs))) (e := .normal) (ob := [∀ e ∈ ([.agg [.int .i64 2, .int .i64 3, .int .i64 1], .agg [.int .i64 1, .int .i64 3, .int .i64 1]] : List AV), belowV 11 e = true,
        ∀ e ∈ ([.agg [.int .i64 1, .int .i64 3, .int .i64 1], .agg [.int .i64 1, .int .i64 3, .int .i64 1]] : List AV), belowV 11 e = true,
        ∀ e ∈ ([.agg [.int .i64 1, .int .i64 3, .int .i64 1], .agg [.int .i64 9, .int .i64 1, .int .i64 1]] : List AV), belowV 11 e = true,
        ∀ e ∈ ([.agg [.int .i64 0, .int .i64 (-1), .int .i64 1]] : List AV), belowV 11 e = true,
        ∀ e ∈ ([.agg [.int .i64 0, .int .i64 2, .int .i64 2]] : List AV), belowV 11 e = true,
        ∀ e ∈ ([.agg [.int .i64 (-1), .int .i64 1, .int .i64 1]] : List AV), belowV 11 e = true,
        ∀ e ∈ ([.slice 3 0 2 0, .slice 4 0 2 0, .slice 5 0 2 0, .slice 6 0 1 0, .slice 7 0 1 0, .slice 8 0 1 0] : List AV), belowV 11 e = true,
        ∀ e ∈ ([.agg [.int .i64 1, .int .i64 3, .int .i64 1], .agg [.int .i64 2, .int .i64 3, .int .i64 1]] : List AV), belowV 11 e = true,
        (.bool (decide (n < 1)) : AV) = (.bool true : AV)]) (by kernel_rfl) ⟨(by simp [belowV, idsOf, idsL, encQ, encW, encK, encC, encF]), (by simp [belowV, idsOf, idsL, encQ, encW, encK, encC, encF]), (by simp [belowV, idsOf, idsL, encQ, encW, encK, encC, encF]), (by simp [belowV, idsOf, idsL, encQ, encW, encK, encC, encF]), (by simp [belowV, idsOf, idsL, encQ, encW, encK, encC, encF]), (by simp [belowV, idsOf, idsL, encQ, encW, encK, encC, encF]), (by simp [belowV, idsOf, idsL, encQ, encW, encK, encC, encF]), (by simp [belowV, idsOf, idsL, encQ, encW, encK, encC, encF]), (bT q1), trivial⟩ ?_
    refine seq_n ?_
    refine Ok.seqP [true, true, true, true, true, true, true, true, true, true, true] (by kernel_rfl) ?_
    refine Ok.evf (by kernel_rfl) 400 [.d, .d, .d, .d, .d, .f true (.agg [.int .i64 1, .int .i64 1]), .f true (.agg [.list [], .int .i64 0, .int .i64 0, .int .i64 4]), .d, .d, .d, .d, .d, .d, .f true (.agg [.int .i64 1, .int .i64 1]), .f true (.agg [.list [], .int .i64 0, .int .i64 0, .int .i64 4]), .d, .d, .d, .d, .d] [1, 6, 7, 8, 9, 14] 11 (st' := (stX .any 167 [(1, .int .i64 n), (6, .bool false), (7, .bool true), (8, .list ((bookF B).map encQ)), (9, .list ((riskF R).map encK)), (14, .slice 10 0 2 0)] (mP_refuses_all_t0 B R bs))) (e := .normal) (ob := [∀ e ∈ ([.agg [.int .i64 2, .int .i64 3, .int .i64 1], .agg [.int .i64 1, .int .i64 3, .int .i64 1]] : List AV), belowV 11 e = true,
        ∀ e ∈ ([.agg [.int .i64 1, .int .i64 3, .int .i64 1], .agg [.int .i64 1, .int .i64 3, .int .i64 1]] : List AV), belowV 11 e = true,
        ∀ e ∈ ([.agg [.int .i64 1, .int .i64 3, .int .i64 1], .agg [.int .i64 9, .int .i64 1, .int .i64 1]] : List AV), belowV 11 e = true,
        ∀ e ∈ ([.agg [.int .i64 0, .int .i64 (-1), .int .i64 1]] : List AV), belowV 11 e = true,
        ∀ e ∈ ([.agg [.int .i64 0, .int .i64 2, .int .i64 2]] : List AV), belowV 11 e = true,
        ∀ e ∈ ([.agg [.int .i64 (-1), .int .i64 1, .int .i64 1]] : List AV), belowV 11 e = true,
        ∀ e ∈ ([.slice 3 0 2 0, .slice 4 0 2 0, .slice 5 0 2 0, .slice 6 0 1 0, .slice 7 0 1 0, .slice 8 0 1 0] : List AV), belowV 11 e = true,
        ∀ e ∈ ([.agg [.int .i64 1, .int .i64 3, .int .i64 1], .agg [.int .i64 2, .int .i64 3, .int .i64 1]] : List AV), belowV 11 e = true,
        FnF Try.prog 12 true [.int .i64 1] (.agg [.int .i64 1, .int .i64 1]),
        FnF Try.prog 18 true [.list [.agg [.int .i64 1, .int .i64 3, .int .i64 1], .agg [.int .i64 2, .int .i64 3, .int .i64 1]], .agg [.int .i64 0, .int .i64 n, .int .i64 0, .int .i64 0], .int .i64 1, .agg [.int .i64 1, .int .i64 1]] (.agg [.list [], .int .i64 0, .int .i64 0, .int .i64 4]),
        ∀ e ∈ ([.agg [.int .i64 1, .int .i64 3, .int .i64 1], .agg [.int .i64 2, .int .i64 3, .int .i64 1]] : List AV), idsOf e = [],
        FnF Try.prog 12 true [.int .i64 1] (.agg [.int .i64 1, .int .i64 1]),
        FnF Try.prog 18 true [.list [.agg [.int .i64 1, .int .i64 3, .int .i64 1], .agg [.int .i64 2, .int .i64 3, .int .i64 1]], .agg [.int .i64 0, .int .i64 1, .int .i64 0, .int .i64 0], .int .i64 n, .agg [.int .i64 1, .int .i64 1]] (.agg [.list [], .int .i64 0, .int .i64 0, .int .i64 4]),
        ∀ e ∈ ([.agg [.int .i64 1, .int .i64 3, .int .i64 1], .agg [.int .i64 2, .int .i64 3, .int .i64 1]] : List AV), idsOf e = []]) (by kernel_rfl) ⟨(by simp [belowV, idsOf, idsL, encQ, encW, encK, encC, encF]), (by simp [belowV, idsOf, idsL, encQ, encW, encK, encC, encF]), (by simp [belowV, idsOf, idsL, encQ, encW, encK, encC, encF]), (by simp [belowV, idsOf, idsL, encQ, encW, encK, encC, encF]), (by simp [belowV, idsOf, idsL, encQ, encW, encK, encC, encF]), (by simp [belowV, idsOf, idsL, encQ, encW, encK, encC, encF]), (by simp [belowV, idsOf, idsL, encQ, encW, encK, encC, encF]), (by simp [belowV, idsOf, idsL, encQ, encW, encK, encC, encF]), ph12_40, (pi18_46 hB hBl hR hRl hbs hn hk kb1 kb2 ko1 ko2 kp1 kp2 krl k6 q1), (by simp [idsOf, idsL, encQ, encW, encK, encC, encF]), ph12_40, (pi18_47 hB hBl hR hRl hbs hn hk kb1 kb2 ko1 ko2 kp1 kp2 krl k6 q1), (by simp [idsOf, idsL, encQ, encW, encK, encC, encF]), trivial⟩ ?_
    refine seq_n ?_
    refine Ok.cutP [true, true, true, true, true, true, true, true, true, true, true, true] (s1 := (stX .any 167 [(6, .bool true)] (mP_refuses_all_t0 B R bs))) (by kernel_rfl) ?_ ?_
    · by_cases q2 : n ≥ 0
      · refine Ok.evf (by kernel_rfl) 400 [.d, .d, .d, .f true (.agg [.list [], .int .i64 0, .int .i64 0, .int .i64 1]), .d, .d, .d, .d, .d, .d, .f true (.agg [.list [], .int .i64 0, .int .i64 0, .int .i64 1]), .d, .d, .d, .d, .d, .v (.bool true), .d, .d, .v (.bool true), .d, .d, .d, .d, .d, .d, .d, .d, .d, .d, .d, .d, .v (.bool false), .d, .d, .d, .d, .d, .d, .d, .d, .f false (.agg [.list ((opnL (bookF B) (riskF R) n 1).map encC), .int .i64 0, .int .i64 0, .int .i64 (opnE (bookF B) (riskF R) n 1)]), .d, .v (.bool true), .d, .d, .d, .d, .v (.bool true), .d, .d, .v (.bool true), .d, .d, .d, .d, .d, .d, .d, .d, .d, .d, .d, .d, .d, .d] [6] 11 (st' := (stX .any 167 [(6, .bool true)] (mP_refuses_all_t0 B R bs))) (e := .normal) (ob := [∀ e ∈ ([.agg [.int .i64 2, .int .i64 3, .int .i64 1], .agg [.int .i64 1, .int .i64 3, .int .i64 1]] : List AV), belowV 11 e = true,
        ∀ e ∈ ([.agg [.int .i64 1, .int .i64 3, .int .i64 1], .agg [.int .i64 1, .int .i64 3, .int .i64 1]] : List AV), belowV 11 e = true,
        ∀ e ∈ ([.agg [.int .i64 1, .int .i64 3, .int .i64 1], .agg [.int .i64 9, .int .i64 1, .int .i64 1]] : List AV), belowV 11 e = true,
        ∀ e ∈ ([.agg [.int .i64 0, .int .i64 (-1), .int .i64 1]] : List AV), belowV 11 e = true,
        ∀ e ∈ ([.agg [.int .i64 0, .int .i64 2, .int .i64 2]] : List AV), belowV 11 e = true,
        ∀ e ∈ ([.agg [.int .i64 (-1), .int .i64 1, .int .i64 1]] : List AV), belowV 11 e = true,
        ∀ e ∈ ([.slice 3 0 2 0, .slice 4 0 2 0, .slice 5 0 2 0, .slice 6 0 1 0, .slice 7 0 1 0, .slice 8 0 1 0] : List AV), belowV 11 e = true,
        ∀ e ∈ ([.agg [.int .i64 1, .int .i64 3, .int .i64 1], .agg [.int .i64 2, .int .i64 3, .int .i64 1]] : List AV), belowV 11 e = true,
        FnF Try.prog 18 true [.list [.agg [.int .i64 1, .int .i64 3, .int .i64 1], .agg [.int .i64 2, .int .i64 3, .int .i64 1]], .agg [.int .i64 0, .int .i64 1, .int .i64 0, .int .i64 0], .int .i64 2, .agg [.int .i64 (-1), .int .i64 1]] (.agg [.list [], .int .i64 0, .int .i64 0, .int .i64 1]),
        ∀ e ∈ ([.agg [.int .i64 1, .int .i64 3, .int .i64 1], .agg [.int .i64 2, .int .i64 3, .int .i64 1]] : List AV), idsOf e = [],
        FnF Try.prog 18 true [.list [.agg [.int .i64 1, .int .i64 3, .int .i64 1], .agg [.int .i64 2, .int .i64 3, .int .i64 1]], .agg [.int .i64 0, .int .i64 1, .int .i64 0, .int .i64 0], .int .i64 2, .agg [.int .i64 0, .int .i64 0]] (.agg [.list [], .int .i64 0, .int .i64 0, .int .i64 1]),
        ∀ e ∈ ([.agg [.int .i64 1, .int .i64 3, .int .i64 1], .agg [.int .i64 2, .int .i64 3, .int .i64 1]] : List AV), idsOf e = [],
        (.bool (decide (n ≥ 0)) : AV) = (.bool true : AV),
        (.bool (decide (n ≤ 7)) : AV) = (.bool true : AV),
        (.bool (decide (n ≥ 1)) : AV) = (.bool false : AV),
        FnF Try.prog 17 false [.list ((bookF B).map encQ), .list ((riskF R).map encK), .int .i64 n, .int .i64 1] (.agg [.list ((opnL (bookF B) (riskF R) n 1).map encC), .int .i64 0, .int .i64 0, .int .i64 (opnE (bookF B) (riskF R) n 1)]),
        (.bool ((opnE (bookF B) (riskF R) n 1) == 1) : AV) = (.bool true : AV),
        (.bool (decide (n ≥ 0)) : AV) = (.bool true : AV),
        (.bool (decide (n ≤ 1000000)) : AV) = (.bool true : AV)]) (by kernel_rfl) ⟨(by simp [belowV, idsOf, idsL, encQ, encW, encK, encC, encF]), (by simp [belowV, idsOf, idsL, encQ, encW, encK, encC, encF]), (by simp [belowV, idsOf, idsL, encQ, encW, encK, encC, encF]), (by simp [belowV, idsOf, idsL, encQ, encW, encK, encC, encF]), (by simp [belowV, idsOf, idsL, encQ, encW, encK, encC, encF]), (by simp [belowV, idsOf, idsL, encQ, encW, encK, encC, encF]), (by simp [belowV, idsOf, idsL, encQ, encW, encK, encC, encF]), (by simp [belowV, idsOf, idsL, encQ, encW, encK, encC, encF]), pi18_48, (by simp [idsOf, idsL, encQ, encW, encK, encC, encF]), pi18_49, (by simp [idsOf, idsL, encQ, encW, encK, encC, encF]), (bT q2), (bT (by omega)), (bF (by omega)), (pi17_50 hB hBl hR hRl hbs hn hk kb1 kb2 ko1 ko2 kp1 kp2 krl k6 q1 q2), (eT (by omega)), (bT q2), (bT (by omega)), trivial⟩ ?_
        exact rfl
      · refine Ok.evf (by kernel_rfl) 400 [.d, .d, .d, .f true (.agg [.list [], .int .i64 0, .int .i64 0, .int .i64 1]), .d, .d, .d, .d, .d, .d, .f true (.agg [.list [], .int .i64 0, .int .i64 0, .int .i64 1]), .d, .d, .d, .d, .d, .v (.bool false), .d, .d, .d, .d, .d, .d, .d, .d, .f true (.agg [.int .i64 (bonN (bookF B) (riskF R) n 1), .int .i64 (bonD (bookF B) (riskF R) n 1), .int .i64 (bonE (bookF B) (riskF R) n 1)]), .d, .v (.bool true), .d, .d, .d, .d, .v (.bool false), .d, .d, .d, .d, .d, .d, .d, .d, .f false (.agg [.list ((opnL (bookF B) (riskF R) n 1).map encC), .int .i64 0, .int .i64 0, .int .i64 (opnE (bookF B) (riskF R) n 1)]), .d, .v (.bool true), .d, .d, .d, .d, .v (.bool false), .d, .d, .d, .d, .d, .d, .d, .d, .f true (.agg [.int .i64 (preN (cntQ (bookF B) 1) 0 1 n), .int .i64 (preD (cntQ (bookF B) 1) 0 1 n), .int .i64 (preE (cntQ (bookF B) 1) 0 1 n)]), .d, .v (.bool true), .d, .d, .d, .d, .d, .d] [6] 11 (st' := (stX .any 167 [(6, .bool true)] (mP_refuses_all_t0 B R bs))) (e := .normal) (ob := [∀ e ∈ ([.agg [.int .i64 2, .int .i64 3, .int .i64 1], .agg [.int .i64 1, .int .i64 3, .int .i64 1]] : List AV), belowV 11 e = true,
        ∀ e ∈ ([.agg [.int .i64 1, .int .i64 3, .int .i64 1], .agg [.int .i64 1, .int .i64 3, .int .i64 1]] : List AV), belowV 11 e = true,
        ∀ e ∈ ([.agg [.int .i64 1, .int .i64 3, .int .i64 1], .agg [.int .i64 9, .int .i64 1, .int .i64 1]] : List AV), belowV 11 e = true,
        ∀ e ∈ ([.agg [.int .i64 0, .int .i64 (-1), .int .i64 1]] : List AV), belowV 11 e = true,
        ∀ e ∈ ([.agg [.int .i64 0, .int .i64 2, .int .i64 2]] : List AV), belowV 11 e = true,
        ∀ e ∈ ([.agg [.int .i64 (-1), .int .i64 1, .int .i64 1]] : List AV), belowV 11 e = true,
        ∀ e ∈ ([.slice 3 0 2 0, .slice 4 0 2 0, .slice 5 0 2 0, .slice 6 0 1 0, .slice 7 0 1 0, .slice 8 0 1 0] : List AV), belowV 11 e = true,
        ∀ e ∈ ([.agg [.int .i64 1, .int .i64 3, .int .i64 1], .agg [.int .i64 2, .int .i64 3, .int .i64 1]] : List AV), belowV 11 e = true,
        FnF Try.prog 18 true [.list [.agg [.int .i64 1, .int .i64 3, .int .i64 1], .agg [.int .i64 2, .int .i64 3, .int .i64 1]], .agg [.int .i64 0, .int .i64 1, .int .i64 0, .int .i64 0], .int .i64 2, .agg [.int .i64 (-1), .int .i64 1]] (.agg [.list [], .int .i64 0, .int .i64 0, .int .i64 1]),
        ∀ e ∈ ([.agg [.int .i64 1, .int .i64 3, .int .i64 1], .agg [.int .i64 2, .int .i64 3, .int .i64 1]] : List AV), idsOf e = [],
        FnF Try.prog 18 true [.list [.agg [.int .i64 1, .int .i64 3, .int .i64 1], .agg [.int .i64 2, .int .i64 3, .int .i64 1]], .agg [.int .i64 0, .int .i64 1, .int .i64 0, .int .i64 0], .int .i64 2, .agg [.int .i64 0, .int .i64 0]] (.agg [.list [], .int .i64 0, .int .i64 0, .int .i64 1]),
        ∀ e ∈ ([.agg [.int .i64 1, .int .i64 3, .int .i64 1], .agg [.int .i64 2, .int .i64 3, .int .i64 1]] : List AV), idsOf e = [],
        (.bool (decide (n ≥ 0)) : AV) = (.bool false : AV),
        FnF Try.prog 15 true [.list ((bookF B).map encQ), .list ((riskF R).map encK), .int .i64 n, .int .i64 1] (.agg [.int .i64 (bonN (bookF B) (riskF R) n 1), .int .i64 (bonD (bookF B) (riskF R) n 1), .int .i64 (bonE (bookF B) (riskF R) n 1)]),
        (.bool ((bonE (bookF B) (riskF R) n 1) == 1) : AV) = (.bool true : AV),
        (.bool (decide (n ≥ 1)) : AV) = (.bool false : AV),
        FnF Try.prog 17 false [.list ((bookF B).map encQ), .list ((riskF R).map encK), .int .i64 n, .int .i64 1] (.agg [.list ((opnL (bookF B) (riskF R) n 1).map encC), .int .i64 0, .int .i64 0, .int .i64 (opnE (bookF B) (riskF R) n 1)]),
        (.bool ((opnE (bookF B) (riskF R) n 1) == 1) : AV) = (.bool true : AV),
        (.bool (decide (n ≥ 0)) : AV) = (.bool false : AV),
        FnF Try.prog 11 true [.list ((bookF B).map encQ), .agg [.int .i64 0, .int .i64 1, .int .i64 n]] (.agg [.int .i64 (preN (cntQ (bookF B) 1) 0 1 n), .int .i64 (preD (cntQ (bookF B) 1) 0 1 n), .int .i64 (preE (cntQ (bookF B) 1) 0 1 n)]),
        (.bool ((preE (cntQ (bookF B) 1) 0 1 n) == 1) : AV) = (.bool true : AV)]) (by kernel_rfl) ⟨(by simp [belowV, idsOf, idsL, encQ, encW, encK, encC, encF]), (by simp [belowV, idsOf, idsL, encQ, encW, encK, encC, encF]), (by simp [belowV, idsOf, idsL, encQ, encW, encK, encC, encF]), (by simp [belowV, idsOf, idsL, encQ, encW, encK, encC, encF]), (by simp [belowV, idsOf, idsL, encQ, encW, encK, encC, encF]), (by simp [belowV, idsOf, idsL, encQ, encW, encK, encC, encF]), (by simp [belowV, idsOf, idsL, encQ, encW, encK, encC, encF]), (by simp [belowV, idsOf, idsL, encQ, encW, encK, encC, encF]), pi18_48, (by simp [idsOf, idsL, encQ, encW, encK, encC, encF]), pi18_49, (by simp [idsOf, idsL, encQ, encW, encK, encC, encF]), (bF q2), (pi15_51 hB hBl hR hRl hbs hn hk kb1 kb2 ko1 ko2 kp1 kp2 krl k6 q1 q2), (eT (by omega)), (bF (by omega)), (pi17_52 hB hBl hR hRl hbs hn hk kb1 kb2 ko1 ko2 kp1 kp2 krl k6 q1 q2), (eT (by omega)), (bF q2), (pi11_53 hB hBl hR hRl hbs hn hk kb1 kb2 ko1 ko2 kp1 kp2 krl k6 q1 q2), (eT (by omega)), trivial⟩ ?_
        exact rfl
    · refine Ok.evf (by kernel_rfl) 400 [] [6] 11 (st' := (stX .any 167 [(6, .bool true)] (mP_refuses_all_t0 B R bs))) (e := .ret) (ob := [∀ e ∈ ([.agg [.int .i64 2, .int .i64 3, .int .i64 1], .agg [.int .i64 1, .int .i64 3, .int .i64 1]] : List AV), belowV 11 e = true,
        ∀ e ∈ ([.agg [.int .i64 1, .int .i64 3, .int .i64 1], .agg [.int .i64 1, .int .i64 3, .int .i64 1]] : List AV), belowV 11 e = true,
        ∀ e ∈ ([.agg [.int .i64 1, .int .i64 3, .int .i64 1], .agg [.int .i64 9, .int .i64 1, .int .i64 1]] : List AV), belowV 11 e = true,
        ∀ e ∈ ([.agg [.int .i64 0, .int .i64 (-1), .int .i64 1]] : List AV), belowV 11 e = true,
        ∀ e ∈ ([.agg [.int .i64 0, .int .i64 2, .int .i64 2]] : List AV), belowV 11 e = true,
        ∀ e ∈ ([.agg [.int .i64 (-1), .int .i64 1, .int .i64 1]] : List AV), belowV 11 e = true,
        ∀ e ∈ ([.slice 3 0 2 0, .slice 4 0 2 0, .slice 5 0 2 0, .slice 6 0 1 0, .slice 7 0 1 0, .slice 8 0 1 0] : List AV), belowV 11 e = true,
        ∀ e ∈ ([.agg [.int .i64 1, .int .i64 3, .int .i64 1], .agg [.int .i64 2, .int .i64 3, .int .i64 1]] : List AV), belowV 11 e = true]) (by kernel_rfl) ⟨(by simp [belowV, idsOf, idsL, encQ, encW, encK, encC, encF]), (by simp [belowV, idsOf, idsL, encQ, encW, encK, encC, encF]), (by simp [belowV, idsOf, idsL, encQ, encW, encK, encC, encF]), (by simp [belowV, idsOf, idsL, encQ, encW, encK, encC, encF]), (by simp [belowV, idsOf, idsL, encQ, encW, encK, encC, encF]), (by simp [belowV, idsOf, idsL, encQ, encW, encK, encC, encF]), (by simp [belowV, idsOf, idsL, encQ, encW, encK, encC, encF]), (by simp [belowV, idsOf, idsL, encQ, encW, encK, encC, encF]), trivial⟩ ?_
      exact ⟨.inr rfl, finF_of (ob := [(true : Bool) = true]) (by kernel_rfl) ⟨rfl, trivial⟩⟩
  · by_cases q2 : n > 2
    · refine Ok.evf (by kernel_rfl) 400 [.d, .v (.bool false), .d, .d, .v (.bool true), .d, .d] [1, 6, 7, 8, 9, 14, 15] 11 (st' := (stX .any 167 [(1, .int .i64 n), (6, .bool false), (7, .bool true), (8, .list ((bookF B).map encQ)), (9, .list ((riskF R).map encK)), (14, .slice 10 0 2 0), (15, .bool true)] (mP_refuses_all_t0 B R bs))) (e := .normal) (ob := [∀ e ∈ ([.agg [.int .i64 2, .int .i64 3, .int .i64 1], .agg [.int .i64 1, .int .i64 3, .int .i64 1]] : List AV), belowV 11 e = true,
        ∀ e ∈ ([.agg [.int .i64 1, .int .i64 3, .int .i64 1], .agg [.int .i64 1, .int .i64 3, .int .i64 1]] : List AV), belowV 11 e = true,
        ∀ e ∈ ([.agg [.int .i64 1, .int .i64 3, .int .i64 1], .agg [.int .i64 9, .int .i64 1, .int .i64 1]] : List AV), belowV 11 e = true,
        ∀ e ∈ ([.agg [.int .i64 0, .int .i64 (-1), .int .i64 1]] : List AV), belowV 11 e = true,
        ∀ e ∈ ([.agg [.int .i64 0, .int .i64 2, .int .i64 2]] : List AV), belowV 11 e = true,
        ∀ e ∈ ([.agg [.int .i64 (-1), .int .i64 1, .int .i64 1]] : List AV), belowV 11 e = true,
        ∀ e ∈ ([.slice 3 0 2 0, .slice 4 0 2 0, .slice 5 0 2 0, .slice 6 0 1 0, .slice 7 0 1 0, .slice 8 0 1 0] : List AV), belowV 11 e = true,
        ∀ e ∈ ([.agg [.int .i64 1, .int .i64 3, .int .i64 1], .agg [.int .i64 2, .int .i64 3, .int .i64 1]] : List AV), belowV 11 e = true,
        (.bool (decide (n < 1)) : AV) = (.bool false : AV),
        (.bool (decide (n > 2)) : AV) = (.bool true : AV)]) (by kernel_rfl) ⟨(by simp [belowV, idsOf, idsL, encQ, encW, encK, encC, encF]), (by simp [belowV, idsOf, idsL, encQ, encW, encK, encC, encF]), (by simp [belowV, idsOf, idsL, encQ, encW, encK, encC, encF]), (by simp [belowV, idsOf, idsL, encQ, encW, encK, encC, encF]), (by simp [belowV, idsOf, idsL, encQ, encW, encK, encC, encF]), (by simp [belowV, idsOf, idsL, encQ, encW, encK, encC, encF]), (by simp [belowV, idsOf, idsL, encQ, encW, encK, encC, encF]), (by simp [belowV, idsOf, idsL, encQ, encW, encK, encC, encF]), (bF q1), (bT q2), trivial⟩ ?_
      refine seq_n ?_
      refine Ok.seqP [true, true, true, true, true, true, true, true, true, true, true] (by kernel_rfl) ?_
      refine Ok.evf (by kernel_rfl) 400 [.d, .d, .d, .d, .d, .f true (.agg [.int .i64 1, .int .i64 1]), .f true (.agg [.list [], .int .i64 0, .int .i64 0, .int .i64 4]), .d, .d, .d, .d, .d, .d, .f true (.agg [.int .i64 1, .int .i64 1]), .f true (.agg [.list [], .int .i64 0, .int .i64 0, .int .i64 4]), .d, .d, .d, .d, .d] [1, 6, 7, 8, 9, 14] 11 (st' := (stX .any 167 [(1, .int .i64 n), (6, .bool false), (7, .bool true), (8, .list ((bookF B).map encQ)), (9, .list ((riskF R).map encK)), (14, .slice 10 0 2 0)] (mP_refuses_all_t0 B R bs))) (e := .normal) (ob := [∀ e ∈ ([.agg [.int .i64 2, .int .i64 3, .int .i64 1], .agg [.int .i64 1, .int .i64 3, .int .i64 1]] : List AV), belowV 11 e = true,
        ∀ e ∈ ([.agg [.int .i64 1, .int .i64 3, .int .i64 1], .agg [.int .i64 1, .int .i64 3, .int .i64 1]] : List AV), belowV 11 e = true,
        ∀ e ∈ ([.agg [.int .i64 1, .int .i64 3, .int .i64 1], .agg [.int .i64 9, .int .i64 1, .int .i64 1]] : List AV), belowV 11 e = true,
        ∀ e ∈ ([.agg [.int .i64 0, .int .i64 (-1), .int .i64 1]] : List AV), belowV 11 e = true,
        ∀ e ∈ ([.agg [.int .i64 0, .int .i64 2, .int .i64 2]] : List AV), belowV 11 e = true,
        ∀ e ∈ ([.agg [.int .i64 (-1), .int .i64 1, .int .i64 1]] : List AV), belowV 11 e = true,
        ∀ e ∈ ([.slice 3 0 2 0, .slice 4 0 2 0, .slice 5 0 2 0, .slice 6 0 1 0, .slice 7 0 1 0, .slice 8 0 1 0] : List AV), belowV 11 e = true,
        ∀ e ∈ ([.agg [.int .i64 1, .int .i64 3, .int .i64 1], .agg [.int .i64 2, .int .i64 3, .int .i64 1]] : List AV), belowV 11 e = true,
        FnF Try.prog 12 true [.int .i64 1] (.agg [.int .i64 1, .int .i64 1]),
        FnF Try.prog 18 true [.list [.agg [.int .i64 1, .int .i64 3, .int .i64 1], .agg [.int .i64 2, .int .i64 3, .int .i64 1]], .agg [.int .i64 0, .int .i64 n, .int .i64 0, .int .i64 0], .int .i64 1, .agg [.int .i64 1, .int .i64 1]] (.agg [.list [], .int .i64 0, .int .i64 0, .int .i64 4]),
        ∀ e ∈ ([.agg [.int .i64 1, .int .i64 3, .int .i64 1], .agg [.int .i64 2, .int .i64 3, .int .i64 1]] : List AV), idsOf e = [],
        FnF Try.prog 12 true [.int .i64 1] (.agg [.int .i64 1, .int .i64 1]),
        FnF Try.prog 18 true [.list [.agg [.int .i64 1, .int .i64 3, .int .i64 1], .agg [.int .i64 2, .int .i64 3, .int .i64 1]], .agg [.int .i64 0, .int .i64 1, .int .i64 0, .int .i64 0], .int .i64 n, .agg [.int .i64 1, .int .i64 1]] (.agg [.list [], .int .i64 0, .int .i64 0, .int .i64 4]),
        ∀ e ∈ ([.agg [.int .i64 1, .int .i64 3, .int .i64 1], .agg [.int .i64 2, .int .i64 3, .int .i64 1]] : List AV), idsOf e = []]) (by kernel_rfl) ⟨(by simp [belowV, idsOf, idsL, encQ, encW, encK, encC, encF]), (by simp [belowV, idsOf, idsL, encQ, encW, encK, encC, encF]), (by simp [belowV, idsOf, idsL, encQ, encW, encK, encC, encF]), (by simp [belowV, idsOf, idsL, encQ, encW, encK, encC, encF]), (by simp [belowV, idsOf, idsL, encQ, encW, encK, encC, encF]), (by simp [belowV, idsOf, idsL, encQ, encW, encK, encC, encF]), (by simp [belowV, idsOf, idsL, encQ, encW, encK, encC, encF]), (by simp [belowV, idsOf, idsL, encQ, encW, encK, encC, encF]), ph12_40, (pi18_54 hB hBl hR hRl hbs hn hk kb1 kb2 ko1 ko2 kp1 kp2 krl k6 q1 q2), (by simp [idsOf, idsL, encQ, encW, encK, encC, encF]), ph12_40, (pi18_55 hB hBl hR hRl hbs hn hk kb1 kb2 ko1 ko2 kp1 kp2 krl k6 q1 q2), (by simp [idsOf, idsL, encQ, encW, encK, encC, encF]), trivial⟩ ?_
      refine seq_n ?_
      refine Ok.cutP [true, true, true, true, true, true, true, true, true, true, true, true] (s1 := (stX .any 167 [(6, .bool true)] (mP_refuses_all_t0 B R bs))) (by kernel_rfl) ?_ ?_
      · by_cases q3 : n ≤ 7
        · refine Ok.evf (by kernel_rfl) 400 [.d, .d, .d, .f true (.agg [.list [], .int .i64 0, .int .i64 0, .int .i64 1]), .d, .d, .d, .d, .d, .d, .f true (.agg [.list [], .int .i64 0, .int .i64 0, .int .i64 1]), .d, .d, .d, .d, .d, .v (.bool true), .d, .d, .v (.bool true), .d, .d, .d, .d, .d, .d, .d, .d, .d, .d, .d, .d, .v (.bool true), .d, .d, .v (.bool true), .d, .d, .d, .d, .d, .d, .d, .d, .d, .d, .d, .d, .v (.bool true), .d, .d, .v (.bool true), .d, .d, .d, .d, .d, .d, .d, .d, .d, .d, .d, .d, .d, .d] [6] 11 (st' := (stX .any 167 [(6, .bool true)] (mP_refuses_all_t0 B R bs))) (e := .normal) (ob := [∀ e ∈ ([.agg [.int .i64 2, .int .i64 3, .int .i64 1], .agg [.int .i64 1, .int .i64 3, .int .i64 1]] : List AV), belowV 11 e = true,
        ∀ e ∈ ([.agg [.int .i64 1, .int .i64 3, .int .i64 1], .agg [.int .i64 1, .int .i64 3, .int .i64 1]] : List AV), belowV 11 e = true,
        ∀ e ∈ ([.agg [.int .i64 1, .int .i64 3, .int .i64 1], .agg [.int .i64 9, .int .i64 1, .int .i64 1]] : List AV), belowV 11 e = true,
        ∀ e ∈ ([.agg [.int .i64 0, .int .i64 (-1), .int .i64 1]] : List AV), belowV 11 e = true,
        ∀ e ∈ ([.agg [.int .i64 0, .int .i64 2, .int .i64 2]] : List AV), belowV 11 e = true,
        ∀ e ∈ ([.agg [.int .i64 (-1), .int .i64 1, .int .i64 1]] : List AV), belowV 11 e = true,
        ∀ e ∈ ([.slice 3 0 2 0, .slice 4 0 2 0, .slice 5 0 2 0, .slice 6 0 1 0, .slice 7 0 1 0, .slice 8 0 1 0] : List AV), belowV 11 e = true,
        ∀ e ∈ ([.agg [.int .i64 1, .int .i64 3, .int .i64 1], .agg [.int .i64 2, .int .i64 3, .int .i64 1]] : List AV), belowV 11 e = true,
        FnF Try.prog 18 true [.list [.agg [.int .i64 1, .int .i64 3, .int .i64 1], .agg [.int .i64 2, .int .i64 3, .int .i64 1]], .agg [.int .i64 0, .int .i64 1, .int .i64 0, .int .i64 0], .int .i64 2, .agg [.int .i64 (-1), .int .i64 1]] (.agg [.list [], .int .i64 0, .int .i64 0, .int .i64 1]),
        ∀ e ∈ ([.agg [.int .i64 1, .int .i64 3, .int .i64 1], .agg [.int .i64 2, .int .i64 3, .int .i64 1]] : List AV), idsOf e = [],
        FnF Try.prog 18 true [.list [.agg [.int .i64 1, .int .i64 3, .int .i64 1], .agg [.int .i64 2, .int .i64 3, .int .i64 1]], .agg [.int .i64 0, .int .i64 1, .int .i64 0, .int .i64 0], .int .i64 2, .agg [.int .i64 0, .int .i64 0]] (.agg [.list [], .int .i64 0, .int .i64 0, .int .i64 1]),
        ∀ e ∈ ([.agg [.int .i64 1, .int .i64 3, .int .i64 1], .agg [.int .i64 2, .int .i64 3, .int .i64 1]] : List AV), idsOf e = [],
        (.bool (decide (n ≥ 0)) : AV) = (.bool true : AV),
        (.bool (decide (n ≤ 7)) : AV) = (.bool true : AV),
        (.bool (decide (n ≥ 1)) : AV) = (.bool true : AV),
        (.bool (decide (n ≤ 8)) : AV) = (.bool true : AV),
        (.bool (decide (n ≥ 0)) : AV) = (.bool true : AV),
        (.bool (decide (n ≤ 1000000)) : AV) = (.bool true : AV)]) (by kernel_rfl) ⟨(by simp [belowV, idsOf, idsL, encQ, encW, encK, encC, encF]), (by simp [belowV, idsOf, idsL, encQ, encW, encK, encC, encF]), (by simp [belowV, idsOf, idsL, encQ, encW, encK, encC, encF]), (by simp [belowV, idsOf, idsL, encQ, encW, encK, encC, encF]), (by simp [belowV, idsOf, idsL, encQ, encW, encK, encC, encF]), (by simp [belowV, idsOf, idsL, encQ, encW, encK, encC, encF]), (by simp [belowV, idsOf, idsL, encQ, encW, encK, encC, encF]), (by simp [belowV, idsOf, idsL, encQ, encW, encK, encC, encF]), pi18_48, (by simp [idsOf, idsL, encQ, encW, encK, encC, encF]), pi18_49, (by simp [idsOf, idsL, encQ, encW, encK, encC, encF]), (bT (by omega)), (bT q3), (bT (by omega)), (bT (by omega)), (bT (by omega)), (bT (by omega)), trivial⟩ ?_
          exact rfl
        · by_cases q4 : n ≤ 8
          · refine Ok.evf (by kernel_rfl) 400 [.d, .d, .d, .f true (.agg [.list [], .int .i64 0, .int .i64 0, .int .i64 1]), .d, .d, .d, .d, .d, .d, .f true (.agg [.list [], .int .i64 0, .int .i64 0, .int .i64 1]), .d, .d, .d, .d, .d, .v (.bool true), .d, .d, .v (.bool false), .d, .d, .d, .d, .d, .f true (.agg [.int .i64 (bonN (bookF B) (riskF R) n 1), .int .i64 (bonD (bookF B) (riskF R) n 1), .int .i64 (bonE (bookF B) (riskF R) n 1)]), .d, .v (.bool true), .d, .d, .d, .d, .v (.bool true), .d, .d, .v (.bool true), .d, .d, .d, .d, .d, .d, .d, .d, .d, .d, .d, .d, .v (.bool true), .d, .d, .v (.bool true), .d, .d, .d, .d, .d, .d, .d, .d, .d, .d, .d, .d, .d, .d] [6] 11 (st' := (stX .any 167 [(6, .bool true)] (mP_refuses_all_t0 B R bs))) (e := .normal) (ob := [∀ e ∈ ([.agg [.int .i64 2, .int .i64 3, .int .i64 1], .agg [.int .i64 1, .int .i64 3, .int .i64 1]] : List AV), belowV 11 e = true,
        ∀ e ∈ ([.agg [.int .i64 1, .int .i64 3, .int .i64 1], .agg [.int .i64 1, .int .i64 3, .int .i64 1]] : List AV), belowV 11 e = true,
        ∀ e ∈ ([.agg [.int .i64 1, .int .i64 3, .int .i64 1], .agg [.int .i64 9, .int .i64 1, .int .i64 1]] : List AV), belowV 11 e = true,
        ∀ e ∈ ([.agg [.int .i64 0, .int .i64 (-1), .int .i64 1]] : List AV), belowV 11 e = true,
        ∀ e ∈ ([.agg [.int .i64 0, .int .i64 2, .int .i64 2]] : List AV), belowV 11 e = true,
        ∀ e ∈ ([.agg [.int .i64 (-1), .int .i64 1, .int .i64 1]] : List AV), belowV 11 e = true,
        ∀ e ∈ ([.slice 3 0 2 0, .slice 4 0 2 0, .slice 5 0 2 0, .slice 6 0 1 0, .slice 7 0 1 0, .slice 8 0 1 0] : List AV), belowV 11 e = true,
        ∀ e ∈ ([.agg [.int .i64 1, .int .i64 3, .int .i64 1], .agg [.int .i64 2, .int .i64 3, .int .i64 1]] : List AV), belowV 11 e = true,
        FnF Try.prog 18 true [.list [.agg [.int .i64 1, .int .i64 3, .int .i64 1], .agg [.int .i64 2, .int .i64 3, .int .i64 1]], .agg [.int .i64 0, .int .i64 1, .int .i64 0, .int .i64 0], .int .i64 2, .agg [.int .i64 (-1), .int .i64 1]] (.agg [.list [], .int .i64 0, .int .i64 0, .int .i64 1]),
        ∀ e ∈ ([.agg [.int .i64 1, .int .i64 3, .int .i64 1], .agg [.int .i64 2, .int .i64 3, .int .i64 1]] : List AV), idsOf e = [],
        FnF Try.prog 18 true [.list [.agg [.int .i64 1, .int .i64 3, .int .i64 1], .agg [.int .i64 2, .int .i64 3, .int .i64 1]], .agg [.int .i64 0, .int .i64 1, .int .i64 0, .int .i64 0], .int .i64 2, .agg [.int .i64 0, .int .i64 0]] (.agg [.list [], .int .i64 0, .int .i64 0, .int .i64 1]),
        ∀ e ∈ ([.agg [.int .i64 1, .int .i64 3, .int .i64 1], .agg [.int .i64 2, .int .i64 3, .int .i64 1]] : List AV), idsOf e = [],
        (.bool (decide (n ≥ 0)) : AV) = (.bool true : AV),
        (.bool (decide (n ≤ 7)) : AV) = (.bool false : AV),
        FnF Try.prog 15 true [.list ((bookF B).map encQ), .list ((riskF R).map encK), .int .i64 n, .int .i64 1] (.agg [.int .i64 (bonN (bookF B) (riskF R) n 1), .int .i64 (bonD (bookF B) (riskF R) n 1), .int .i64 (bonE (bookF B) (riskF R) n 1)]),
        (.bool ((bonE (bookF B) (riskF R) n 1) == 1) : AV) = (.bool true : AV),
        (.bool (decide (n ≥ 1)) : AV) = (.bool true : AV),
        (.bool (decide (n ≤ 8)) : AV) = (.bool true : AV),
        (.bool (decide (n ≥ 0)) : AV) = (.bool true : AV),
        (.bool (decide (n ≤ 1000000)) : AV) = (.bool true : AV)]) (by kernel_rfl) ⟨(by simp [belowV, idsOf, idsL, encQ, encW, encK, encC, encF]), (by simp [belowV, idsOf, idsL, encQ, encW, encK, encC, encF]), (by simp [belowV, idsOf, idsL, encQ, encW, encK, encC, encF]), (by simp [belowV, idsOf, idsL, encQ, encW, encK, encC, encF]), (by simp [belowV, idsOf, idsL, encQ, encW, encK, encC, encF]), (by simp [belowV, idsOf, idsL, encQ, encW, encK, encC, encF]), (by simp [belowV, idsOf, idsL, encQ, encW, encK, encC, encF]), (by simp [belowV, idsOf, idsL, encQ, encW, encK, encC, encF]), pi18_48, (by simp [idsOf, idsL, encQ, encW, encK, encC, encF]), pi18_49, (by simp [idsOf, idsL, encQ, encW, encK, encC, encF]), (bT (by omega)), (bF q3), (pi15_56 hB hBl hR hRl hbs hn hk kb1 kb2 ko1 ko2 kp1 kp2 krl k6 q1 q2 q3), (eT (by omega)), (bT (by omega)), (bT q4), (bT (by omega)), (bT (by omega)), trivial⟩ ?_
            exact rfl
          · by_cases q5 : n ≤ 1000000
            · refine Ok.evf (by kernel_rfl) 400 [.d, .d, .d, .f true (.agg [.list [], .int .i64 0, .int .i64 0, .int .i64 1]), .d, .d, .d, .d, .d, .d, .f true (.agg [.list [], .int .i64 0, .int .i64 0, .int .i64 1]), .d, .d, .d, .d, .d, .v (.bool true), .d, .d, .v (.bool false), .d, .d, .d, .d, .d, .f true (.agg [.int .i64 (bonN (bookF B) (riskF R) n 1), .int .i64 (bonD (bookF B) (riskF R) n 1), .int .i64 (bonE (bookF B) (riskF R) n 1)]), .d, .v (.bool true), .d, .d, .d, .d, .v (.bool true), .d, .d, .v (.bool false), .d, .d, .d, .d, .d, .f false (.agg [.list ((opnL (bookF B) (riskF R) n 1).map encC), .int .i64 0, .int .i64 0, .int .i64 (opnE (bookF B) (riskF R) n 1)]), .d, .v (.bool true), .d, .d, .d, .d, .v (.bool true), .d, .d, .v (.bool true), .d, .d, .d, .d, .d, .d, .d, .d, .d, .d, .d, .d, .d, .d] [6] 11 (st' := (stX .any 167 [(6, .bool true)] (mP_refuses_all_t0 B R bs))) (e := .normal) (ob := [∀ e ∈ ([.agg [.int .i64 2, .int .i64 3, .int .i64 1], .agg [.int .i64 1, .int .i64 3, .int .i64 1]] : List AV), belowV 11 e = true,
        ∀ e ∈ ([.agg [.int .i64 1, .int .i64 3, .int .i64 1], .agg [.int .i64 1, .int .i64 3, .int .i64 1]] : List AV), belowV 11 e = true,
        ∀ e ∈ ([.agg [.int .i64 1, .int .i64 3, .int .i64 1], .agg [.int .i64 9, .int .i64 1, .int .i64 1]] : List AV), belowV 11 e = true,
        ∀ e ∈ ([.agg [.int .i64 0, .int .i64 (-1), .int .i64 1]] : List AV), belowV 11 e = true,
        ∀ e ∈ ([.agg [.int .i64 0, .int .i64 2, .int .i64 2]] : List AV), belowV 11 e = true,
        ∀ e ∈ ([.agg [.int .i64 (-1), .int .i64 1, .int .i64 1]] : List AV), belowV 11 e = true,
        ∀ e ∈ ([.slice 3 0 2 0, .slice 4 0 2 0, .slice 5 0 2 0, .slice 6 0 1 0, .slice 7 0 1 0, .slice 8 0 1 0] : List AV), belowV 11 e = true,
        ∀ e ∈ ([.agg [.int .i64 1, .int .i64 3, .int .i64 1], .agg [.int .i64 2, .int .i64 3, .int .i64 1]] : List AV), belowV 11 e = true,
        FnF Try.prog 18 true [.list [.agg [.int .i64 1, .int .i64 3, .int .i64 1], .agg [.int .i64 2, .int .i64 3, .int .i64 1]], .agg [.int .i64 0, .int .i64 1, .int .i64 0, .int .i64 0], .int .i64 2, .agg [.int .i64 (-1), .int .i64 1]] (.agg [.list [], .int .i64 0, .int .i64 0, .int .i64 1]),
        ∀ e ∈ ([.agg [.int .i64 1, .int .i64 3, .int .i64 1], .agg [.int .i64 2, .int .i64 3, .int .i64 1]] : List AV), idsOf e = [],
        FnF Try.prog 18 true [.list [.agg [.int .i64 1, .int .i64 3, .int .i64 1], .agg [.int .i64 2, .int .i64 3, .int .i64 1]], .agg [.int .i64 0, .int .i64 1, .int .i64 0, .int .i64 0], .int .i64 2, .agg [.int .i64 0, .int .i64 0]] (.agg [.list [], .int .i64 0, .int .i64 0, .int .i64 1]),
        ∀ e ∈ ([.agg [.int .i64 1, .int .i64 3, .int .i64 1], .agg [.int .i64 2, .int .i64 3, .int .i64 1]] : List AV), idsOf e = [],
        (.bool (decide (n ≥ 0)) : AV) = (.bool true : AV),
        (.bool (decide (n ≤ 7)) : AV) = (.bool false : AV),
        FnF Try.prog 15 true [.list ((bookF B).map encQ), .list ((riskF R).map encK), .int .i64 n, .int .i64 1] (.agg [.int .i64 (bonN (bookF B) (riskF R) n 1), .int .i64 (bonD (bookF B) (riskF R) n 1), .int .i64 (bonE (bookF B) (riskF R) n 1)]),
        (.bool ((bonE (bookF B) (riskF R) n 1) == 1) : AV) = (.bool true : AV),
        (.bool (decide (n ≥ 1)) : AV) = (.bool true : AV),
        (.bool (decide (n ≤ 8)) : AV) = (.bool false : AV),
        FnF Try.prog 17 false [.list ((bookF B).map encQ), .list ((riskF R).map encK), .int .i64 n, .int .i64 1] (.agg [.list ((opnL (bookF B) (riskF R) n 1).map encC), .int .i64 0, .int .i64 0, .int .i64 (opnE (bookF B) (riskF R) n 1)]),
        (.bool ((opnE (bookF B) (riskF R) n 1) == 1) : AV) = (.bool true : AV),
        (.bool (decide (n ≥ 0)) : AV) = (.bool true : AV),
        (.bool (decide (n ≤ 1000000)) : AV) = (.bool true : AV)]) (by kernel_rfl) ⟨(by simp [belowV, idsOf, idsL, encQ, encW, encK, encC, encF]), (by simp [belowV, idsOf, idsL, encQ, encW, encK, encC, encF]), (by simp [belowV, idsOf, idsL, encQ, encW, encK, encC, encF]), (by simp [belowV, idsOf, idsL, encQ, encW, encK, encC, encF]), (by simp [belowV, idsOf, idsL, encQ, encW, encK, encC, encF]), (by simp [belowV, idsOf, idsL, encQ, encW, encK, encC, encF]), (by simp [belowV, idsOf, idsL, encQ, encW, encK, encC, encF]), (by simp [belowV, idsOf, idsL, encQ, encW, encK, encC, encF]), pi18_48, (by simp [idsOf, idsL, encQ, encW, encK, encC, encF]), pi18_49, (by simp [idsOf, idsL, encQ, encW, encK, encC, encF]), (bT (by omega)), (bF q3), (pi15_56 hB hBl hR hRl hbs hn hk kb1 kb2 ko1 ko2 kp1 kp2 krl k6 q1 q2 q3), (eT (by omega)), (bT (by omega)), (bF q4), (pi17_57 hB hBl hR hRl hbs hn hk kb1 kb2 ko1 ko2 kp1 kp2 krl k6 q1 q2 q3 q4), (eT (by omega)), (bT (by omega)), (bT q5), trivial⟩ ?_
              exact rfl
            · refine Ok.evf (by kernel_rfl) 400 [.d, .d, .d, .f true (.agg [.list [], .int .i64 0, .int .i64 0, .int .i64 1]), .d, .d, .d, .d, .d, .d, .f true (.agg [.list [], .int .i64 0, .int .i64 0, .int .i64 1]), .d, .d, .d, .d, .d, .v (.bool true), .d, .d, .v (.bool false), .d, .d, .d, .d, .d, .f true (.agg [.int .i64 (bonN (bookF B) (riskF R) n 1), .int .i64 (bonD (bookF B) (riskF R) n 1), .int .i64 (bonE (bookF B) (riskF R) n 1)]), .d, .v (.bool true), .d, .d, .d, .d, .v (.bool true), .d, .d, .v (.bool false), .d, .d, .d, .d, .d, .f false (.agg [.list ((opnL (bookF B) (riskF R) n 1).map encC), .int .i64 0, .int .i64 0, .int .i64 (opnE (bookF B) (riskF R) n 1)]), .d, .v (.bool true), .d, .d, .d, .d, .v (.bool true), .d, .d, .v (.bool false), .d, .d, .d, .d, .d, .f true (.agg [.int .i64 (preN (cntQ (bookF B) 1) 0 1 n), .int .i64 (preD (cntQ (bookF B) 1) 0 1 n), .int .i64 (preE (cntQ (bookF B) 1) 0 1 n)]), .d, .v (.bool true), .d, .d, .d, .d, .d, .d] [6] 11 (st' := (stX .any 167 [(6, .bool true)] (mP_refuses_all_t0 B R bs))) (e := .normal) (ob := [∀ e ∈ ([.agg [.int .i64 2, .int .i64 3, .int .i64 1], .agg [.int .i64 1, .int .i64 3, .int .i64 1]] : List AV), belowV 11 e = true,
        ∀ e ∈ ([.agg [.int .i64 1, .int .i64 3, .int .i64 1], .agg [.int .i64 1, .int .i64 3, .int .i64 1]] : List AV), belowV 11 e = true,
        ∀ e ∈ ([.agg [.int .i64 1, .int .i64 3, .int .i64 1], .agg [.int .i64 9, .int .i64 1, .int .i64 1]] : List AV), belowV 11 e = true,
        ∀ e ∈ ([.agg [.int .i64 0, .int .i64 (-1), .int .i64 1]] : List AV), belowV 11 e = true,
        ∀ e ∈ ([.agg [.int .i64 0, .int .i64 2, .int .i64 2]] : List AV), belowV 11 e = true,
        ∀ e ∈ ([.agg [.int .i64 (-1), .int .i64 1, .int .i64 1]] : List AV), belowV 11 e = true,
        ∀ e ∈ ([.slice 3 0 2 0, .slice 4 0 2 0, .slice 5 0 2 0, .slice 6 0 1 0, .slice 7 0 1 0, .slice 8 0 1 0] : List AV), belowV 11 e = true,
        ∀ e ∈ ([.agg [.int .i64 1, .int .i64 3, .int .i64 1], .agg [.int .i64 2, .int .i64 3, .int .i64 1]] : List AV), belowV 11 e = true,
        FnF Try.prog 18 true [.list [.agg [.int .i64 1, .int .i64 3, .int .i64 1], .agg [.int .i64 2, .int .i64 3, .int .i64 1]], .agg [.int .i64 0, .int .i64 1, .int .i64 0, .int .i64 0], .int .i64 2, .agg [.int .i64 (-1), .int .i64 1]] (.agg [.list [], .int .i64 0, .int .i64 0, .int .i64 1]),
        ∀ e ∈ ([.agg [.int .i64 1, .int .i64 3, .int .i64 1], .agg [.int .i64 2, .int .i64 3, .int .i64 1]] : List AV), idsOf e = [],
        FnF Try.prog 18 true [.list [.agg [.int .i64 1, .int .i64 3, .int .i64 1], .agg [.int .i64 2, .int .i64 3, .int .i64 1]], .agg [.int .i64 0, .int .i64 1, .int .i64 0, .int .i64 0], .int .i64 2, .agg [.int .i64 0, .int .i64 0]] (.agg [.list [], .int .i64 0, .int .i64 0, .int .i64 1]),
        ∀ e ∈ ([.agg [.int .i64 1, .int .i64 3, .int .i64 1], .agg [.int .i64 2, .int .i64 3, .int .i64 1]] : List AV), idsOf e = [],
        (.bool (decide (n ≥ 0)) : AV) = (.bool true : AV),
        (.bool (decide (n ≤ 7)) : AV) = (.bool false : AV),
        FnF Try.prog 15 true [.list ((bookF B).map encQ), .list ((riskF R).map encK), .int .i64 n, .int .i64 1] (.agg [.int .i64 (bonN (bookF B) (riskF R) n 1), .int .i64 (bonD (bookF B) (riskF R) n 1), .int .i64 (bonE (bookF B) (riskF R) n 1)]),
        (.bool ((bonE (bookF B) (riskF R) n 1) == 1) : AV) = (.bool true : AV),
        (.bool (decide (n ≥ 1)) : AV) = (.bool true : AV),
        (.bool (decide (n ≤ 8)) : AV) = (.bool false : AV),
        FnF Try.prog 17 false [.list ((bookF B).map encQ), .list ((riskF R).map encK), .int .i64 n, .int .i64 1] (.agg [.list ((opnL (bookF B) (riskF R) n 1).map encC), .int .i64 0, .int .i64 0, .int .i64 (opnE (bookF B) (riskF R) n 1)]),
        (.bool ((opnE (bookF B) (riskF R) n 1) == 1) : AV) = (.bool true : AV),
        (.bool (decide (n ≥ 0)) : AV) = (.bool true : AV),
        (.bool (decide (n ≤ 1000000)) : AV) = (.bool false : AV),
        FnF Try.prog 11 true [.list ((bookF B).map encQ), .agg [.int .i64 0, .int .i64 1, .int .i64 n]] (.agg [.int .i64 (preN (cntQ (bookF B) 1) 0 1 n), .int .i64 (preD (cntQ (bookF B) 1) 0 1 n), .int .i64 (preE (cntQ (bookF B) 1) 0 1 n)]),
        (.bool ((preE (cntQ (bookF B) 1) 0 1 n) == 1) : AV) = (.bool true : AV)]) (by kernel_rfl) ⟨(by simp [belowV, idsOf, idsL, encQ, encW, encK, encC, encF]), (by simp [belowV, idsOf, idsL, encQ, encW, encK, encC, encF]), (by simp [belowV, idsOf, idsL, encQ, encW, encK, encC, encF]), (by simp [belowV, idsOf, idsL, encQ, encW, encK, encC, encF]), (by simp [belowV, idsOf, idsL, encQ, encW, encK, encC, encF]), (by simp [belowV, idsOf, idsL, encQ, encW, encK, encC, encF]), (by simp [belowV, idsOf, idsL, encQ, encW, encK, encC, encF]), (by simp [belowV, idsOf, idsL, encQ, encW, encK, encC, encF]), pi18_48, (by simp [idsOf, idsL, encQ, encW, encK, encC, encF]), pi18_49, (by simp [idsOf, idsL, encQ, encW, encK, encC, encF]), (bT (by omega)), (bF q3), (pi15_56 hB hBl hR hRl hbs hn hk kb1 kb2 ko1 ko2 kp1 kp2 krl k6 q1 q2 q3), (eT (by omega)), (bT (by omega)), (bF q4), (pi17_57 hB hBl hR hRl hbs hn hk kb1 kb2 ko1 ko2 kp1 kp2 krl k6 q1 q2 q3 q4), (eT (by omega)), (bT (by omega)), (bF q5), (pi11_58 hB hBl hR hRl hbs hn hk kb1 kb2 ko1 ko2 kp1 kp2 krl k6 q1 q2 q3 q4 q5), (eT (by omega)), trivial⟩ ?_
              exact rfl
      · refine Ok.evf (by kernel_rfl) 400 [] [6] 11 (st' := (stX .any 167 [(6, .bool true)] (mP_refuses_all_t0 B R bs))) (e := .ret) (ob := [∀ e ∈ ([.agg [.int .i64 2, .int .i64 3, .int .i64 1], .agg [.int .i64 1, .int .i64 3, .int .i64 1]] : List AV), belowV 11 e = true,
        ∀ e ∈ ([.agg [.int .i64 1, .int .i64 3, .int .i64 1], .agg [.int .i64 1, .int .i64 3, .int .i64 1]] : List AV), belowV 11 e = true,
        ∀ e ∈ ([.agg [.int .i64 1, .int .i64 3, .int .i64 1], .agg [.int .i64 9, .int .i64 1, .int .i64 1]] : List AV), belowV 11 e = true,
        ∀ e ∈ ([.agg [.int .i64 0, .int .i64 (-1), .int .i64 1]] : List AV), belowV 11 e = true,
        ∀ e ∈ ([.agg [.int .i64 0, .int .i64 2, .int .i64 2]] : List AV), belowV 11 e = true,
        ∀ e ∈ ([.agg [.int .i64 (-1), .int .i64 1, .int .i64 1]] : List AV), belowV 11 e = true,
        ∀ e ∈ ([.slice 3 0 2 0, .slice 4 0 2 0, .slice 5 0 2 0, .slice 6 0 1 0, .slice 7 0 1 0, .slice 8 0 1 0] : List AV), belowV 11 e = true,
        ∀ e ∈ ([.agg [.int .i64 1, .int .i64 3, .int .i64 1], .agg [.int .i64 2, .int .i64 3, .int .i64 1]] : List AV), belowV 11 e = true]) (by kernel_rfl) ⟨(by simp [belowV, idsOf, idsL, encQ, encW, encK, encC, encF]), (by simp [belowV, idsOf, idsL, encQ, encW, encK, encC, encF]), (by simp [belowV, idsOf, idsL, encQ, encW, encK, encC, encF]), (by simp [belowV, idsOf, idsL, encQ, encW, encK, encC, encF]), (by simp [belowV, idsOf, idsL, encQ, encW, encK, encC, encF]), (by simp [belowV, idsOf, idsL, encQ, encW, encK, encC, encF]), (by simp [belowV, idsOf, idsL, encQ, encW, encK, encC, encF]), (by simp [belowV, idsOf, idsL, encQ, encW, encK, encC, encF]), trivial⟩ ?_
        exact ⟨.inr rfl, finF_of (ob := [(true : Bool) = true]) (by kernel_rfl) ⟨rfl, trivial⟩⟩
    · refine Ok.evf (by kernel_rfl) 400 [.d, .v (.bool false), .d, .d, .v (.bool false), .d, .d] [1, 6, 7, 8, 9, 14, 15] 11 (st' := (stX .any 167 [(1, .int .i64 n), (6, .bool false), (7, .bool true), (8, .list ((bookF B).map encQ)), (9, .list ((riskF R).map encK)), (14, .slice 10 0 2 0), (15, .bool false)] (mP_refuses_all_t0 B R bs))) (e := .normal) (ob := [∀ e ∈ ([.agg [.int .i64 2, .int .i64 3, .int .i64 1], .agg [.int .i64 1, .int .i64 3, .int .i64 1]] : List AV), belowV 11 e = true,
        ∀ e ∈ ([.agg [.int .i64 1, .int .i64 3, .int .i64 1], .agg [.int .i64 1, .int .i64 3, .int .i64 1]] : List AV), belowV 11 e = true,
        ∀ e ∈ ([.agg [.int .i64 1, .int .i64 3, .int .i64 1], .agg [.int .i64 9, .int .i64 1, .int .i64 1]] : List AV), belowV 11 e = true,
        ∀ e ∈ ([.agg [.int .i64 0, .int .i64 (-1), .int .i64 1]] : List AV), belowV 11 e = true,
        ∀ e ∈ ([.agg [.int .i64 0, .int .i64 2, .int .i64 2]] : List AV), belowV 11 e = true,
        ∀ e ∈ ([.agg [.int .i64 (-1), .int .i64 1, .int .i64 1]] : List AV), belowV 11 e = true,
        ∀ e ∈ ([.slice 3 0 2 0, .slice 4 0 2 0, .slice 5 0 2 0, .slice 6 0 1 0, .slice 7 0 1 0, .slice 8 0 1 0] : List AV), belowV 11 e = true,
        ∀ e ∈ ([.agg [.int .i64 1, .int .i64 3, .int .i64 1], .agg [.int .i64 2, .int .i64 3, .int .i64 1]] : List AV), belowV 11 e = true,
        (.bool (decide (n < 1)) : AV) = (.bool false : AV),
        (.bool (decide (n > 2)) : AV) = (.bool false : AV)]) (by kernel_rfl) ⟨(by simp [belowV, idsOf, idsL, encQ, encW, encK, encC, encF]), (by simp [belowV, idsOf, idsL, encQ, encW, encK, encC, encF]), (by simp [belowV, idsOf, idsL, encQ, encW, encK, encC, encF]), (by simp [belowV, idsOf, idsL, encQ, encW, encK, encC, encF]), (by simp [belowV, idsOf, idsL, encQ, encW, encK, encC, encF]), (by simp [belowV, idsOf, idsL, encQ, encW, encK, encC, encF]), (by simp [belowV, idsOf, idsL, encQ, encW, encK, encC, encF]), (by simp [belowV, idsOf, idsL, encQ, encW, encK, encC, encF]), (bF q1), (bF q2), trivial⟩ ?_
      refine seq_n ?_
      refine Ok.evf (by kernel_rfl) 400 [.d, .d, .d, .d, .d, .d, .d, .d, .d, .d, .d, .d, .d, .d, .d, .d, .d, .d, .d, .d, .d, .d, .d, .f true (.agg [.list [], .int .i64 0, .int .i64 0, .int .i64 1]), .d, .d, .d, .d, .d, .d, .f true (.agg [.list [], .int .i64 0, .int .i64 0, .int .i64 1]), .d, .d, .d, .d, .d, .v (.bool true), .d, .d, .v (.bool true), .d, .d, .d, .d, .d, .d, .d, .d, .d, .d, .d, .d, .v (.bool true), .d, .d, .v (.bool true), .d, .d, .d, .d, .d, .d, .d, .d, .d, .d, .d, .d, .v (.bool true), .d, .d, .v (.bool true), .d, .d, .d, .d, .d, .d, .d, .d, .d, .d, .d, .d, .d, .d] [6] 11 (st' := (stX .any 167 [(6, .bool true)] (mP_refuses_all_t0 B R bs))) (e := .ret) (ob := [∀ e ∈ ([.agg [.int .i64 2, .int .i64 3, .int .i64 1], .agg [.int .i64 1, .int .i64 3, .int .i64 1]] : List AV), belowV 11 e = true,
        ∀ e ∈ ([.agg [.int .i64 1, .int .i64 3, .int .i64 1], .agg [.int .i64 1, .int .i64 3, .int .i64 1]] : List AV), belowV 11 e = true,
        ∀ e ∈ ([.agg [.int .i64 1, .int .i64 3, .int .i64 1], .agg [.int .i64 9, .int .i64 1, .int .i64 1]] : List AV), belowV 11 e = true,
        ∀ e ∈ ([.agg [.int .i64 0, .int .i64 (-1), .int .i64 1]] : List AV), belowV 11 e = true,
        ∀ e ∈ ([.agg [.int .i64 0, .int .i64 2, .int .i64 2]] : List AV), belowV 11 e = true,
        ∀ e ∈ ([.agg [.int .i64 (-1), .int .i64 1, .int .i64 1]] : List AV), belowV 11 e = true,
        ∀ e ∈ ([.slice 3 0 2 0, .slice 4 0 2 0, .slice 5 0 2 0, .slice 6 0 1 0, .slice 7 0 1 0, .slice 8 0 1 0] : List AV), belowV 11 e = true,
        ∀ e ∈ ([.agg [.int .i64 1, .int .i64 3, .int .i64 1], .agg [.int .i64 2, .int .i64 3, .int .i64 1]] : List AV), belowV 11 e = true,
        FnF Try.prog 18 true [.list [.agg [.int .i64 1, .int .i64 3, .int .i64 1], .agg [.int .i64 2, .int .i64 3, .int .i64 1]], .agg [.int .i64 0, .int .i64 1, .int .i64 0, .int .i64 0], .int .i64 2, .agg [.int .i64 (-1), .int .i64 1]] (.agg [.list [], .int .i64 0, .int .i64 0, .int .i64 1]),
        ∀ e ∈ ([.agg [.int .i64 1, .int .i64 3, .int .i64 1], .agg [.int .i64 2, .int .i64 3, .int .i64 1]] : List AV), idsOf e = [],
        FnF Try.prog 18 true [.list [.agg [.int .i64 1, .int .i64 3, .int .i64 1], .agg [.int .i64 2, .int .i64 3, .int .i64 1]], .agg [.int .i64 0, .int .i64 1, .int .i64 0, .int .i64 0], .int .i64 2, .agg [.int .i64 0, .int .i64 0]] (.agg [.list [], .int .i64 0, .int .i64 0, .int .i64 1]),
        ∀ e ∈ ([.agg [.int .i64 1, .int .i64 3, .int .i64 1], .agg [.int .i64 2, .int .i64 3, .int .i64 1]] : List AV), idsOf e = [],
        (.bool (decide (n ≥ 0)) : AV) = (.bool true : AV),
        (.bool (decide (n ≤ 7)) : AV) = (.bool true : AV),
        (.bool (decide (n ≥ 1)) : AV) = (.bool true : AV),
        (.bool (decide (n ≤ 8)) : AV) = (.bool true : AV),
        (.bool (decide (n ≥ 0)) : AV) = (.bool true : AV),
        (.bool (decide (n ≤ 1000000)) : AV) = (.bool true : AV)]) (by kernel_rfl) ⟨(by simp [belowV, idsOf, idsL, encQ, encW, encK, encC, encF]), (by simp [belowV, idsOf, idsL, encQ, encW, encK, encC, encF]), (by simp [belowV, idsOf, idsL, encQ, encW, encK, encC, encF]), (by simp [belowV, idsOf, idsL, encQ, encW, encK, encC, encF]), (by simp [belowV, idsOf, idsL, encQ, encW, encK, encC, encF]), (by simp [belowV, idsOf, idsL, encQ, encW, encK, encC, encF]), (by simp [belowV, idsOf, idsL, encQ, encW, encK, encC, encF]), (by simp [belowV, idsOf, idsL, encQ, encW, encK, encC, encF]), pi18_48, (by simp [idsOf, idsL, encQ, encW, encK, encC, encF]), pi18_49, (by simp [idsOf, idsL, encQ, encW, encK, encC, encF]), (bT (by omega)), (bT (by omega)), (bT (by omega)), (bT (by omega)), (bT (by omega)), (bT (by omega)), trivial⟩ ?_
      exact ⟨.inr rfl, finF_of (ob := [(true : Bool) = true]) (by kernel_rfl) ⟨rfl, trivial⟩⟩

set_option maxHeartbeats 1000000 in
theorem pi23_59   : FnF Try.prog 23 true [.list [.agg [.int .i64 1, .int .i64 3, .int .i64 1], .agg [.int .i64 1, .int .i64 3, .int .i64 1]]] (.agg [.int .i64 0, .int .i64 0, .int .i64 1]) :=
  fn_evF (by kernel_rfl) Try.func23 (by kernel_rfl) 400
      [.d, .d, .f true (.tuple [.agg [.int .i64 0, .int .i64 0], .int .i64 1]), .d, .d, .d, .d, .d, .d, .d, .d, .d, .d]
      (by kernel_rfl) (ob := [FnF Try.prog 44 true [.list [.agg [.int .i64 1, .int .i64 3, .int .i64 1], .agg [.int .i64 1, .int .i64 3, .int .i64 1]]] (.tuple [.agg [.int .i64 0, .int .i64 0], .int .i64 1]),
        (0 : Int) = 0,
        (0 : Int) = 0,
        (1 : Int) = 1]) (by kernel_rfl)
      ⟨(by have h := pr_total (a := [(⟨1, 3, 1⟩ : Ac), (⟨1, 3, 1⟩ : Ac)]) (by simp [BdC]) (by decide); rw [show (.tuple [.agg [.int .i64 (totN [(⟨1, 3, 1⟩ : Ac), (⟨1, 3, 1⟩ : Ac)]), .int .i64 (totD [(⟨1, 3, 1⟩ : Ac), (⟨1, 3, 1⟩ : Ac)])], .int .i64 (totE [(⟨1, 3, 1⟩ : Ac), (⟨1, 3, 1⟩ : Ac)])] : AV) = .tuple [.agg [.int .i64 0, .int .i64 0], .int .i64 1] from by kernel_rfl] at h; exact h), rfl, rfl, rfl, trivial⟩

set_option maxHeartbeats 1000000 in
theorem pi19_60 {B R : List Int} {bs n k : Int} (hB : U8L B) (hBl : B.length ≤ 9223372036854775807) (hR : U8L R) (hRl : R.length ≤ 9223372036854775807) (hbs : 0 ≤ bs ∧ bs ≤ 65535) (hn : -9223372036854775808 ≤ n ∧ n ≤ 9223372036854775807) (hk : 0 ≤ k ∧ k ≤ 255) (kb1 : n < 0 → bonE (bookF B) (riskF R) n 1 = 1) (kb2 : 7 < n → bonE (bookF B) (riskF R) n 1 = 1) (ko1 : n < 1 → opnE (bookF B) (riskF R) n 1 = 1) (ko2 : 8 < n → opnE (bookF B) (riskF R) n 1 = 1) (kp1 : n < 0 → preE (cntQ (bookF B) 1) 0 1 n = 1) (kp2 : 1000000 < n → preE (cntQ (bookF B) 1) 0 1 n = 1) (krl : (riskF R).length < 1000000) (k6 : 0 ≤ k % 6 ∧ k % 6 ≤ 5) (q1 : ¬ (k % 6 = 0)) (q2 : k % 6 = 1) : FnF Try.prog 19 true [.list [.agg [.int .i64 1, .int .i64 3, .int .i64 1], .agg [.int .i64 1, .int .i64 3, .int .i64 1]], .list ((bookF B).map encQ), .list ((riskF R).map encK), .int .i64 1] (.agg [.list [], .int .i64 1]) :=
  fn_evF (by kernel_rfl) Try.func19 (by kernel_rfl) 400
      [.d, .d, .d, .d, .d, .f true (.tuple [.list [], .int .i64 1]), .d, .d, .d, .d, .d, .d, .d, .d, .d]
      (by kernel_rfl) (ob := [FnF Try.prog 42 true [.list [.agg [.int .i64 1, .int .i64 3, .int .i64 1], .agg [.int .i64 1, .int .i64 3, .int .i64 1]], .list ((bookF B).map encQ), .list ((riskF R).map encK), .int .i64 1] (.tuple [.list [], .int .i64 1]),
        ([] : List AV) = [],
        ([] : List AV) = [],
        (1 : Int) = 1]) (by kernel_rfl)
      ⟨(by have h := pr_short (a := [(⟨1, 3, 1⟩ : Ac), (⟨1, 3, 1⟩ : Ac)]) (l := bookF B) (L := riskF R) (base := 1) (by simp [BdC]) (by decide) (book_right hB) (by omega) (by decide); rw [shoL, shoE, if_neg (by decide), if_neg (by decide)] at h; exact h), rfl, rfl, rfl, trivial⟩

set_option maxHeartbeats 1000000 in
theorem pi18_61   : FnF Try.prog 18 true [.list [.agg [.int .i64 1, .int .i64 3, .int .i64 1], .agg [.int .i64 1, .int .i64 3, .int .i64 1]], .agg [.int .i64 0, .int .i64 1, .int .i64 0, .int .i64 0], .int .i64 2, .agg [.int .i64 1, .int .i64 1]] (.agg [.list [], .int .i64 0, .int .i64 0, .int .i64 1]) :=
  fn_evF (by kernel_rfl) Try.func18 (by kernel_rfl) 400
      [.d, .d, .d, .d, .d, .d, .d, .f true (.tuple [.list [], .agg [.int .i64 0, .int .i64 0], .int .i64 1]), .d, .d, .d, .d, .d, .d, .d, .d, .d, .d, .d, .d, .d]
      (by kernel_rfl) (ob := [FnF Try.prog 41 true [.list [.agg [.int .i64 1, .int .i64 3, .int .i64 1], .agg [.int .i64 1, .int .i64 3, .int .i64 1]], .agg [.int .i64 0, .int .i64 1, .int .i64 0, .int .i64 0], .int .i64 2, .agg [.int .i64 1, .int .i64 1]] (.tuple [.list [], .agg [.int .i64 0, .int .i64 0], .int .i64 1]),
        ([] : List AV) = [],
        ([] : List AV) = [],
        (0 : Int) = 0,
        (0 : Int) = 0,
        (1 : Int) = 1]) (by kernel_rfl)
      ⟨(by have h := pr_settle (a := [(⟨1, 3, 1⟩ : Ac), (⟨1, 3, 1⟩ : Ac)]) (v := 1) (w := 2) (ln := 1) (ld := 1) (v0 := 0) (v2 := 0) (v3 := 0) (by simp [BdC]) (by decide) (by decide) (by decide) (by decide) (by decide); rw [show (.tuple [.list ((stl [(⟨1, 3, 1⟩ : Ac), (⟨1, 3, 1⟩ : Ac)] 1 2 1 1).1.map encC), .agg [.int .i64 ((stl [(⟨1, 3, 1⟩ : Ac), (⟨1, 3, 1⟩ : Ac)] 1 2 1 1).2.1), .int .i64 ((stl [(⟨1, 3, 1⟩ : Ac), (⟨1, 3, 1⟩ : Ac)] 1 2 1 1).2.2.1)], .int .i64 ((stl [(⟨1, 3, 1⟩ : Ac), (⟨1, 3, 1⟩ : Ac)] 1 2 1 1).2.2.2)] : AV) = .tuple [.list [], .agg [.int .i64 0, .int .i64 0], .int .i64 1] from by kernel_rfl] at h; exact h), rfl, rfl, rfl, rfl, rfl, trivial⟩

set_option maxHeartbeats 1000000 in
theorem pi23_62   : FnF Try.prog 23 true [.list [.agg [.int .i64 1, .int .i64 3, .int .i64 1], .agg [.int .i64 9, .int .i64 1, .int .i64 1]]] (.agg [.int .i64 0, .int .i64 0, .int .i64 1]) :=
  fn_evF (by kernel_rfl) Try.func23 (by kernel_rfl) 400
      [.d, .d, .f true (.tuple [.agg [.int .i64 0, .int .i64 0], .int .i64 1]), .d, .d, .d, .d, .d, .d, .d, .d, .d, .d]
      (by kernel_rfl) (ob := [FnF Try.prog 44 true [.list [.agg [.int .i64 1, .int .i64 3, .int .i64 1], .agg [.int .i64 9, .int .i64 1, .int .i64 1]]] (.tuple [.agg [.int .i64 0, .int .i64 0], .int .i64 1]),
        (0 : Int) = 0,
        (0 : Int) = 0,
        (1 : Int) = 1]) (by kernel_rfl)
      ⟨(by have h := pr_total (a := [(⟨1, 3, 1⟩ : Ac), (⟨9, 1, 1⟩ : Ac)]) (by simp [BdC]) (by decide); rw [show (.tuple [.agg [.int .i64 (totN [(⟨1, 3, 1⟩ : Ac), (⟨9, 1, 1⟩ : Ac)]), .int .i64 (totD [(⟨1, 3, 1⟩ : Ac), (⟨9, 1, 1⟩ : Ac)])], .int .i64 (totE [(⟨1, 3, 1⟩ : Ac), (⟨9, 1, 1⟩ : Ac)])] : AV) = .tuple [.agg [.int .i64 0, .int .i64 0], .int .i64 1] from by kernel_rfl] at h; exact h), rfl, rfl, rfl, trivial⟩

set_option maxHeartbeats 1000000 in
theorem pi19_63 {B R : List Int} {bs n k : Int} (hB : U8L B) (hBl : B.length ≤ 9223372036854775807) (hR : U8L R) (hRl : R.length ≤ 9223372036854775807) (hbs : 0 ≤ bs ∧ bs ≤ 65535) (hn : -9223372036854775808 ≤ n ∧ n ≤ 9223372036854775807) (hk : 0 ≤ k ∧ k ≤ 255) (kb1 : n < 0 → bonE (bookF B) (riskF R) n 1 = 1) (kb2 : 7 < n → bonE (bookF B) (riskF R) n 1 = 1) (ko1 : n < 1 → opnE (bookF B) (riskF R) n 1 = 1) (ko2 : 8 < n → opnE (bookF B) (riskF R) n 1 = 1) (kp1 : n < 0 → preE (cntQ (bookF B) 1) 0 1 n = 1) (kp2 : 1000000 < n → preE (cntQ (bookF B) 1) 0 1 n = 1) (krl : (riskF R).length < 1000000) (k6 : 0 ≤ k % 6 ∧ k % 6 ≤ 5) (q1 : ¬ (k % 6 = 0)) (q2 : ¬ (k % 6 = 1)) (q3 : k % 6 = 2) : FnF Try.prog 19 true [.list [.agg [.int .i64 1, .int .i64 3, .int .i64 1], .agg [.int .i64 9, .int .i64 1, .int .i64 1]], .list ((bookF B).map encQ), .list ((riskF R).map encK), .int .i64 1] (.agg [.list [], .int .i64 1]) :=
  fn_evF (by kernel_rfl) Try.func19 (by kernel_rfl) 400
      [.d, .d, .d, .d, .d, .f true (.tuple [.list [], .int .i64 1]), .d, .d, .d, .d, .d, .d, .d, .d, .d]
      (by kernel_rfl) (ob := [FnF Try.prog 42 true [.list [.agg [.int .i64 1, .int .i64 3, .int .i64 1], .agg [.int .i64 9, .int .i64 1, .int .i64 1]], .list ((bookF B).map encQ), .list ((riskF R).map encK), .int .i64 1] (.tuple [.list [], .int .i64 1]),
        ([] : List AV) = [],
        ([] : List AV) = [],
        (1 : Int) = 1]) (by kernel_rfl)
      ⟨(by have h := pr_short (a := [(⟨1, 3, 1⟩ : Ac), (⟨9, 1, 1⟩ : Ac)]) (l := bookF B) (L := riskF R) (base := 1) (by simp [BdC]) (by decide) (book_right hB) (by omega) (by decide); rw [shoL, shoE, if_neg (by decide), if_neg (by decide)] at h; exact h), rfl, rfl, rfl, trivial⟩

set_option maxHeartbeats 1000000 in
theorem pi18_64   : FnF Try.prog 18 true [.list [.agg [.int .i64 1, .int .i64 3, .int .i64 1], .agg [.int .i64 9, .int .i64 1, .int .i64 1]], .agg [.int .i64 0, .int .i64 1, .int .i64 0, .int .i64 0], .int .i64 2, .agg [.int .i64 1, .int .i64 1]] (.agg [.list [], .int .i64 0, .int .i64 0, .int .i64 1]) :=
  fn_evF (by kernel_rfl) Try.func18 (by kernel_rfl) 400
      [.d, .d, .d, .d, .d, .d, .d, .f true (.tuple [.list [], .agg [.int .i64 0, .int .i64 0], .int .i64 1]), .d, .d, .d, .d, .d, .d, .d, .d, .d, .d, .d, .d, .d]
      (by kernel_rfl) (ob := [FnF Try.prog 41 true [.list [.agg [.int .i64 1, .int .i64 3, .int .i64 1], .agg [.int .i64 9, .int .i64 1, .int .i64 1]], .agg [.int .i64 0, .int .i64 1, .int .i64 0, .int .i64 0], .int .i64 2, .agg [.int .i64 1, .int .i64 1]] (.tuple [.list [], .agg [.int .i64 0, .int .i64 0], .int .i64 1]),
        ([] : List AV) = [],
        ([] : List AV) = [],
        (0 : Int) = 0,
        (0 : Int) = 0,
        (1 : Int) = 1]) (by kernel_rfl)
      ⟨(by have h := pr_settle (a := [(⟨1, 3, 1⟩ : Ac), (⟨9, 1, 1⟩ : Ac)]) (v := 1) (w := 2) (ln := 1) (ld := 1) (v0 := 0) (v2 := 0) (v3 := 0) (by simp [BdC]) (by decide) (by decide) (by decide) (by decide) (by decide); rw [show (.tuple [.list ((stl [(⟨1, 3, 1⟩ : Ac), (⟨9, 1, 1⟩ : Ac)] 1 2 1 1).1.map encC), .agg [.int .i64 ((stl [(⟨1, 3, 1⟩ : Ac), (⟨9, 1, 1⟩ : Ac)] 1 2 1 1).2.1), .int .i64 ((stl [(⟨1, 3, 1⟩ : Ac), (⟨9, 1, 1⟩ : Ac)] 1 2 1 1).2.2.1)], .int .i64 ((stl [(⟨1, 3, 1⟩ : Ac), (⟨9, 1, 1⟩ : Ac)] 1 2 1 1).2.2.2)] : AV) = .tuple [.list [], .agg [.int .i64 0, .int .i64 0], .int .i64 1] from by kernel_rfl] at h; exact h), rfl, rfl, rfl, rfl, rfl, trivial⟩

set_option maxHeartbeats 1000000 in
theorem pi23_65   : FnF Try.prog 23 true [.list [.agg [.int .i64 0, .int .i64 (-1), .int .i64 1]]] (.agg [.int .i64 0, .int .i64 0, .int .i64 1]) :=
  fn_evF (by kernel_rfl) Try.func23 (by kernel_rfl) 400
      [.d, .d, .f true (.tuple [.agg [.int .i64 0, .int .i64 0], .int .i64 1]), .d, .d, .d, .d, .d, .d, .d, .d, .d, .d]
      (by kernel_rfl) (ob := [FnF Try.prog 44 true [.list [.agg [.int .i64 0, .int .i64 (-1), .int .i64 1]]] (.tuple [.agg [.int .i64 0, .int .i64 0], .int .i64 1]),
        (0 : Int) = 0,
        (0 : Int) = 0,
        (1 : Int) = 1]) (by kernel_rfl)
      ⟨(by have h := pr_total (a := [(⟨0, (-1), 1⟩ : Ac)]) (by simp [BdC]) (by decide); rw [show (.tuple [.agg [.int .i64 (totN [(⟨0, (-1), 1⟩ : Ac)]), .int .i64 (totD [(⟨0, (-1), 1⟩ : Ac)])], .int .i64 (totE [(⟨0, (-1), 1⟩ : Ac)])] : AV) = .tuple [.agg [.int .i64 0, .int .i64 0], .int .i64 1] from by kernel_rfl] at h; exact h), rfl, rfl, rfl, trivial⟩

set_option maxHeartbeats 1000000 in
theorem pi19_66 {B R : List Int} {bs n k : Int} (hB : U8L B) (hBl : B.length ≤ 9223372036854775807) (hR : U8L R) (hRl : R.length ≤ 9223372036854775807) (hbs : 0 ≤ bs ∧ bs ≤ 65535) (hn : -9223372036854775808 ≤ n ∧ n ≤ 9223372036854775807) (hk : 0 ≤ k ∧ k ≤ 255) (kb1 : n < 0 → bonE (bookF B) (riskF R) n 1 = 1) (kb2 : 7 < n → bonE (bookF B) (riskF R) n 1 = 1) (ko1 : n < 1 → opnE (bookF B) (riskF R) n 1 = 1) (ko2 : 8 < n → opnE (bookF B) (riskF R) n 1 = 1) (kp1 : n < 0 → preE (cntQ (bookF B) 1) 0 1 n = 1) (kp2 : 1000000 < n → preE (cntQ (bookF B) 1) 0 1 n = 1) (krl : (riskF R).length < 1000000) (k6 : 0 ≤ k % 6 ∧ k % 6 ≤ 5) (q1 : ¬ (k % 6 = 0)) (q2 : ¬ (k % 6 = 1)) (q3 : ¬ (k % 6 = 2)) (q4 : k % 6 = 3) : FnF Try.prog 19 true [.list [.agg [.int .i64 0, .int .i64 (-1), .int .i64 1]], .list ((bookF B).map encQ), .list ((riskF R).map encK), .int .i64 1] (.agg [.list [], .int .i64 1]) :=
  fn_evF (by kernel_rfl) Try.func19 (by kernel_rfl) 400
      [.d, .d, .d, .d, .d, .f true (.tuple [.list [], .int .i64 1]), .d, .d, .d, .d, .d, .d, .d, .d, .d]
      (by kernel_rfl) (ob := [FnF Try.prog 42 true [.list [.agg [.int .i64 0, .int .i64 (-1), .int .i64 1]], .list ((bookF B).map encQ), .list ((riskF R).map encK), .int .i64 1] (.tuple [.list [], .int .i64 1]),
        ([] : List AV) = [],
        ([] : List AV) = [],
        (1 : Int) = 1]) (by kernel_rfl)
      ⟨(by have h := pr_short (a := [(⟨0, (-1), 1⟩ : Ac)]) (l := bookF B) (L := riskF R) (base := 1) (by simp [BdC]) (by decide) (book_right hB) (by omega) (by decide); rw [shoL, shoE, if_neg (by decide), if_neg (by decide)] at h; exact h), rfl, rfl, rfl, trivial⟩

set_option maxHeartbeats 1000000 in
theorem pi18_67   : FnF Try.prog 18 true [.list [.agg [.int .i64 0, .int .i64 (-1), .int .i64 1]], .agg [.int .i64 0, .int .i64 1, .int .i64 0, .int .i64 0], .int .i64 2, .agg [.int .i64 1, .int .i64 1]] (.agg [.list [], .int .i64 0, .int .i64 0, .int .i64 1]) :=
  fn_evF (by kernel_rfl) Try.func18 (by kernel_rfl) 400
      [.d, .d, .d, .d, .d, .d, .d, .f true (.tuple [.list [], .agg [.int .i64 0, .int .i64 0], .int .i64 1]), .d, .d, .d, .d, .d, .d, .d, .d, .d, .d, .d, .d, .d]
      (by kernel_rfl) (ob := [FnF Try.prog 41 true [.list [.agg [.int .i64 0, .int .i64 (-1), .int .i64 1]], .agg [.int .i64 0, .int .i64 1, .int .i64 0, .int .i64 0], .int .i64 2, .agg [.int .i64 1, .int .i64 1]] (.tuple [.list [], .agg [.int .i64 0, .int .i64 0], .int .i64 1]),
        ([] : List AV) = [],
        ([] : List AV) = [],
        (0 : Int) = 0,
        (0 : Int) = 0,
        (1 : Int) = 1]) (by kernel_rfl)
      ⟨(by have h := pr_settle (a := [(⟨0, (-1), 1⟩ : Ac)]) (v := 1) (w := 2) (ln := 1) (ld := 1) (v0 := 0) (v2 := 0) (v3 := 0) (by simp [BdC]) (by decide) (by decide) (by decide) (by decide) (by decide); rw [show (.tuple [.list ((stl [(⟨0, (-1), 1⟩ : Ac)] 1 2 1 1).1.map encC), .agg [.int .i64 ((stl [(⟨0, (-1), 1⟩ : Ac)] 1 2 1 1).2.1), .int .i64 ((stl [(⟨0, (-1), 1⟩ : Ac)] 1 2 1 1).2.2.1)], .int .i64 ((stl [(⟨0, (-1), 1⟩ : Ac)] 1 2 1 1).2.2.2)] : AV) = .tuple [.list [], .agg [.int .i64 0, .int .i64 0], .int .i64 1] from by kernel_rfl] at h; exact h), rfl, rfl, rfl, rfl, rfl, trivial⟩

set_option maxHeartbeats 1000000 in
theorem pi23_68   : FnF Try.prog 23 true [.list [.agg [.int .i64 0, .int .i64 2, .int .i64 2]]] (.agg [.int .i64 0, .int .i64 0, .int .i64 1]) :=
  fn_evF (by kernel_rfl) Try.func23 (by kernel_rfl) 400
      [.d, .d, .f true (.tuple [.agg [.int .i64 0, .int .i64 0], .int .i64 1]), .d, .d, .d, .d, .d, .d, .d, .d, .d, .d]
      (by kernel_rfl) (ob := [FnF Try.prog 44 true [.list [.agg [.int .i64 0, .int .i64 2, .int .i64 2]]] (.tuple [.agg [.int .i64 0, .int .i64 0], .int .i64 1]),
        (0 : Int) = 0,
        (0 : Int) = 0,
        (1 : Int) = 1]) (by kernel_rfl)
      ⟨(by have h := pr_total (a := [(⟨0, 2, 2⟩ : Ac)]) (by simp [BdC]) (by decide); rw [show (.tuple [.agg [.int .i64 (totN [(⟨0, 2, 2⟩ : Ac)]), .int .i64 (totD [(⟨0, 2, 2⟩ : Ac)])], .int .i64 (totE [(⟨0, 2, 2⟩ : Ac)])] : AV) = .tuple [.agg [.int .i64 0, .int .i64 0], .int .i64 1] from by kernel_rfl] at h; exact h), rfl, rfl, rfl, trivial⟩

set_option maxHeartbeats 1000000 in
theorem pi19_69 {B R : List Int} {bs n k : Int} (hB : U8L B) (hBl : B.length ≤ 9223372036854775807) (hR : U8L R) (hRl : R.length ≤ 9223372036854775807) (hbs : 0 ≤ bs ∧ bs ≤ 65535) (hn : -9223372036854775808 ≤ n ∧ n ≤ 9223372036854775807) (hk : 0 ≤ k ∧ k ≤ 255) (kb1 : n < 0 → bonE (bookF B) (riskF R) n 1 = 1) (kb2 : 7 < n → bonE (bookF B) (riskF R) n 1 = 1) (ko1 : n < 1 → opnE (bookF B) (riskF R) n 1 = 1) (ko2 : 8 < n → opnE (bookF B) (riskF R) n 1 = 1) (kp1 : n < 0 → preE (cntQ (bookF B) 1) 0 1 n = 1) (kp2 : 1000000 < n → preE (cntQ (bookF B) 1) 0 1 n = 1) (krl : (riskF R).length < 1000000) (k6 : 0 ≤ k % 6 ∧ k % 6 ≤ 5) (q1 : ¬ (k % 6 = 0)) (q2 : ¬ (k % 6 = 1)) (q3 : ¬ (k % 6 = 2)) (q4 : ¬ (k % 6 = 3)) (q5 : k % 6 = 4) : FnF Try.prog 19 true [.list [.agg [.int .i64 0, .int .i64 2, .int .i64 2]], .list ((bookF B).map encQ), .list ((riskF R).map encK), .int .i64 1] (.agg [.list [], .int .i64 1]) :=
  fn_evF (by kernel_rfl) Try.func19 (by kernel_rfl) 400
      [.d, .d, .d, .d, .d, .f true (.tuple [.list [], .int .i64 1]), .d, .d, .d, .d, .d, .d, .d, .d, .d]
      (by kernel_rfl) (ob := [FnF Try.prog 42 true [.list [.agg [.int .i64 0, .int .i64 2, .int .i64 2]], .list ((bookF B).map encQ), .list ((riskF R).map encK), .int .i64 1] (.tuple [.list [], .int .i64 1]),
        ([] : List AV) = [],
        ([] : List AV) = [],
        (1 : Int) = 1]) (by kernel_rfl)
      ⟨(by have h := pr_short (a := [(⟨0, 2, 2⟩ : Ac)]) (l := bookF B) (L := riskF R) (base := 1) (by simp [BdC]) (by decide) (book_right hB) (by omega) (by decide); rw [shoL, shoE, if_neg (by decide), if_neg (by decide)] at h; exact h), rfl, rfl, rfl, trivial⟩

set_option maxHeartbeats 1000000 in
theorem pi18_70   : FnF Try.prog 18 true [.list [.agg [.int .i64 0, .int .i64 2, .int .i64 2]], .agg [.int .i64 0, .int .i64 1, .int .i64 0, .int .i64 0], .int .i64 2, .agg [.int .i64 1, .int .i64 1]] (.agg [.list [], .int .i64 0, .int .i64 0, .int .i64 1]) :=
  fn_evF (by kernel_rfl) Try.func18 (by kernel_rfl) 400
      [.d, .d, .d, .d, .d, .d, .d, .f true (.tuple [.list [], .agg [.int .i64 0, .int .i64 0], .int .i64 1]), .d, .d, .d, .d, .d, .d, .d, .d, .d, .d, .d, .d, .d]
      (by kernel_rfl) (ob := [FnF Try.prog 41 true [.list [.agg [.int .i64 0, .int .i64 2, .int .i64 2]], .agg [.int .i64 0, .int .i64 1, .int .i64 0, .int .i64 0], .int .i64 2, .agg [.int .i64 1, .int .i64 1]] (.tuple [.list [], .agg [.int .i64 0, .int .i64 0], .int .i64 1]),
        ([] : List AV) = [],
        ([] : List AV) = [],
        (0 : Int) = 0,
        (0 : Int) = 0,
        (1 : Int) = 1]) (by kernel_rfl)
      ⟨(by have h := pr_settle (a := [(⟨0, 2, 2⟩ : Ac)]) (v := 1) (w := 2) (ln := 1) (ld := 1) (v0 := 0) (v2 := 0) (v3 := 0) (by simp [BdC]) (by decide) (by decide) (by decide) (by decide) (by decide); rw [show (.tuple [.list ((stl [(⟨0, 2, 2⟩ : Ac)] 1 2 1 1).1.map encC), .agg [.int .i64 ((stl [(⟨0, 2, 2⟩ : Ac)] 1 2 1 1).2.1), .int .i64 ((stl [(⟨0, 2, 2⟩ : Ac)] 1 2 1 1).2.2.1)], .int .i64 ((stl [(⟨0, 2, 2⟩ : Ac)] 1 2 1 1).2.2.2)] : AV) = .tuple [.list [], .agg [.int .i64 0, .int .i64 0], .int .i64 1] from by kernel_rfl] at h; exact h), rfl, rfl, rfl, rfl, rfl, trivial⟩

set_option maxHeartbeats 1000000 in
theorem pi23_71   : FnF Try.prog 23 true [.list [.agg [.int .i64 (-1), .int .i64 1, .int .i64 1]]] (.agg [.int .i64 0, .int .i64 0, .int .i64 1]) :=
  fn_evF (by kernel_rfl) Try.func23 (by kernel_rfl) 400
      [.d, .d, .f true (.tuple [.agg [.int .i64 0, .int .i64 0], .int .i64 1]), .d, .d, .d, .d, .d, .d, .d, .d, .d, .d]
      (by kernel_rfl) (ob := [FnF Try.prog 44 true [.list [.agg [.int .i64 (-1), .int .i64 1, .int .i64 1]]] (.tuple [.agg [.int .i64 0, .int .i64 0], .int .i64 1]),
        (0 : Int) = 0,
        (0 : Int) = 0,
        (1 : Int) = 1]) (by kernel_rfl)
      ⟨(by have h := pr_total (a := [(⟨(-1), 1, 1⟩ : Ac)]) (by simp [BdC]) (by decide); rw [show (.tuple [.agg [.int .i64 (totN [(⟨(-1), 1, 1⟩ : Ac)]), .int .i64 (totD [(⟨(-1), 1, 1⟩ : Ac)])], .int .i64 (totE [(⟨(-1), 1, 1⟩ : Ac)])] : AV) = .tuple [.agg [.int .i64 0, .int .i64 0], .int .i64 1] from by kernel_rfl] at h; exact h), rfl, rfl, rfl, trivial⟩

set_option maxHeartbeats 1000000 in
theorem pi19_72 {B R : List Int} {bs n k : Int} (hB : U8L B) (hBl : B.length ≤ 9223372036854775807) (hR : U8L R) (hRl : R.length ≤ 9223372036854775807) (hbs : 0 ≤ bs ∧ bs ≤ 65535) (hn : -9223372036854775808 ≤ n ∧ n ≤ 9223372036854775807) (hk : 0 ≤ k ∧ k ≤ 255) (kb1 : n < 0 → bonE (bookF B) (riskF R) n 1 = 1) (kb2 : 7 < n → bonE (bookF B) (riskF R) n 1 = 1) (ko1 : n < 1 → opnE (bookF B) (riskF R) n 1 = 1) (ko2 : 8 < n → opnE (bookF B) (riskF R) n 1 = 1) (kp1 : n < 0 → preE (cntQ (bookF B) 1) 0 1 n = 1) (kp2 : 1000000 < n → preE (cntQ (bookF B) 1) 0 1 n = 1) (krl : (riskF R).length < 1000000) (k6 : 0 ≤ k % 6 ∧ k % 6 ≤ 5) (q1 : ¬ (k % 6 = 0)) (q2 : ¬ (k % 6 = 1)) (q3 : ¬ (k % 6 = 2)) (q4 : ¬ (k % 6 = 3)) (q5 : ¬ (k % 6 = 4)) : FnF Try.prog 19 true [.list [.agg [.int .i64 (-1), .int .i64 1, .int .i64 1]], .list ((bookF B).map encQ), .list ((riskF R).map encK), .int .i64 1] (.agg [.list [], .int .i64 1]) :=
  fn_evF (by kernel_rfl) Try.func19 (by kernel_rfl) 400
      [.d, .d, .d, .d, .d, .f true (.tuple [.list [], .int .i64 1]), .d, .d, .d, .d, .d, .d, .d, .d, .d]
      (by kernel_rfl) (ob := [FnF Try.prog 42 true [.list [.agg [.int .i64 (-1), .int .i64 1, .int .i64 1]], .list ((bookF B).map encQ), .list ((riskF R).map encK), .int .i64 1] (.tuple [.list [], .int .i64 1]),
        ([] : List AV) = [],
        ([] : List AV) = [],
        (1 : Int) = 1]) (by kernel_rfl)
      ⟨(by have h := pr_short (a := [(⟨(-1), 1, 1⟩ : Ac)]) (l := bookF B) (L := riskF R) (base := 1) (by simp [BdC]) (by decide) (book_right hB) (by omega) (by decide); rw [shoL, shoE, if_neg (by decide), if_neg (by decide)] at h; exact h), rfl, rfl, rfl, trivial⟩

set_option maxHeartbeats 1000000 in
theorem pi18_73   : FnF Try.prog 18 true [.list [.agg [.int .i64 (-1), .int .i64 1, .int .i64 1]], .agg [.int .i64 0, .int .i64 1, .int .i64 0, .int .i64 0], .int .i64 2, .agg [.int .i64 1, .int .i64 1]] (.agg [.list [], .int .i64 0, .int .i64 0, .int .i64 1]) :=
  fn_evF (by kernel_rfl) Try.func18 (by kernel_rfl) 400
      [.d, .d, .d, .d, .d, .d, .d, .f true (.tuple [.list [], .agg [.int .i64 0, .int .i64 0], .int .i64 1]), .d, .d, .d, .d, .d, .d, .d, .d, .d, .d, .d, .d, .d]
      (by kernel_rfl) (ob := [FnF Try.prog 41 true [.list [.agg [.int .i64 (-1), .int .i64 1, .int .i64 1]], .agg [.int .i64 0, .int .i64 1, .int .i64 0, .int .i64 0], .int .i64 2, .agg [.int .i64 1, .int .i64 1]] (.tuple [.list [], .agg [.int .i64 0, .int .i64 0], .int .i64 1]),
        ([] : List AV) = [],
        ([] : List AV) = [],
        (0 : Int) = 0,
        (0 : Int) = 0,
        (1 : Int) = 1]) (by kernel_rfl)
      ⟨(by have h := pr_settle (a := [(⟨(-1), 1, 1⟩ : Ac)]) (v := 1) (w := 2) (ln := 1) (ld := 1) (v0 := 0) (v2 := 0) (v3 := 0) (by simp [BdC]) (by decide) (by decide) (by decide) (by decide) (by decide); rw [show (.tuple [.list ((stl [(⟨(-1), 1, 1⟩ : Ac)] 1 2 1 1).1.map encC), .agg [.int .i64 ((stl [(⟨(-1), 1, 1⟩ : Ac)] 1 2 1 1).2.1), .int .i64 ((stl [(⟨(-1), 1, 1⟩ : Ac)] 1 2 1 1).2.2.1)], .int .i64 ((stl [(⟨(-1), 1, 1⟩ : Ac)] 1 2 1 1).2.2.2)] : AV) = .tuple [.list [], .agg [.int .i64 0, .int .i64 0], .int .i64 1] from by kernel_rfl] at h; exact h), rfl, rfl, rfl, rfl, rfl, trivial⟩

def mP_refuses_all (B : List Int) (R : List Int) (bs : Int) : List Blk := [.cells [.list (B.map enc8), .list (R.map enc8), .int .u16 bs], .cells [.int .i64 1, .int .i64 3, .int .i64 1], .cells [.int .i64 2, .int .i64 3, .int .i64 1], .row 3 [.agg [.int .i64 2, .int .i64 3, .int .i64 1], .agg [.int .i64 1, .int .i64 3, .int .i64 1]] 0, .row 3 [.agg [.int .i64 1, .int .i64 3, .int .i64 1], .agg [.int .i64 1, .int .i64 3, .int .i64 1]] 0, .row 3 [.agg [.int .i64 1, .int .i64 3, .int .i64 1], .agg [.int .i64 9, .int .i64 1, .int .i64 1]] 0, .row 3 [.agg [.int .i64 0, .int .i64 (-1), .int .i64 1]] 0, .row 3 [.agg [.int .i64 0, .int .i64 2, .int .i64 2]] 0, .row 3 [.agg [.int .i64 (-1), .int .i64 1, .int .i64 1]] 0, .row 1 [.slice 3 0 2 0, .slice 4 0 2 0, .slice 5 0 2 0, .slice 6 0 1 0, .slice 7 0 1 0, .slice 8 0 1 0] 0]
def sP_refuses_all (B : List Int) (R : List Int) (n : Int) : List (Nat × AV) := [(1, .int .i64 n), (6, .bool false), (7, .bool true), (8, .list ((bookF B).map encQ)), (9, .list ((riskF R).map encK)), (10, .ptr 1 0), (11, .ptr 2 0)]
set_option maxHeartbeats 1000000 in
theorem refuses_all {B R : List Int} {bs n k : Int} (hB : U8L B) (hBl : B.length ≤ 9223372036854775807) (hR : U8L R) (hRl : R.length ≤ 9223372036854775807) (hbs : 0 ≤ bs ∧ bs ≤ 65535) (hn : -9223372036854775808 ≤ n ∧ n ≤ 9223372036854775807) (hk : 0 ≤ k ∧ k ≤ 255) : FnF Try.prog 8 true [.agg [.list (B.map enc8), .list (R.map enc8), .int .u16 bs], .int .i64 n, .int .u8 k] (.bool true) := by
  have kb1 : n < 0 → bonE (bookF B) (riskF R) n 1 = 1 := fun h => bonE_bad (.inl h)
  have kb2 : 7 < n → bonE (bookF B) (riskF R) n 1 = 1 := fun h => bonE_bad (.inr h)
  have ko1 : n < 1 → opnE (bookF B) (riskF R) n 1 = 1 := fun h => opnE_bad (.inl h)
  have ko2 : 8 < n → opnE (bookF B) (riskF R) n 1 = 1 := fun h => opnE_bad (.inr h)
  have kp1 : n < 0 → preE (cntQ (bookF B) 1) 0 1 n = 1 := fun h => preE_bad (.inl h)
  have kp2 : 1000000 < n → preE (cntQ (bookF B) 1) 0 1 n = 1 := fun h => preE_bad (.inr h)
  have krl : (riskF R).length < 1000000 := by have := riskF_len R; omega
  have k6 : 0 ≤ k % 6 ∧ k % 6 ≤ 5 := by omega
  refine fn_walkF Try.func8 (by kernel_rfl) (by kernel_rfl) (by kernel_rfl) (st := (stX (.tuple []) 167 [(0, .agg [.list (B.map enc8), .list (R.map enc8), .int .u16 bs]), (1, .int .i64 n), (2, .int .u8 k)] [])) rfl ?_
  refine Ok.seqP [] (by kernel_rfl) ?_
  refine Ok.evf (by kernel_rfl) 400 [.d, .d] [1, 2, 3, 6] 1 (st' := (stX .any 167 [(1, .int .i64 n), (2, .int .u8 k), (3, .ptr 0 0), (6, .bool false)] [.cells [.list (B.map enc8), .list (R.map enc8), .int .u16 bs]])) (e := .normal) (ob := []) (by kernel_rfl) trivial ?_
  refine seq_n ?_
  refine Ok.seqP [true] (by kernel_rfl) ?_
  refine Ok.evf (by kernel_rfl) 400 [.f true (.bool true), .d] [1, 2, 3, 6, 7] 1 (st' := (stX .any 167 [(1, .int .i64 n), (2, .int .u8 k), (3, .ptr 0 0), (6, .bool false), (7, .bool true)] [.cells [.list (B.map enc8), .list (R.map enc8), .int .u16 bs]])) (e := .normal) (ob := [FnF Try.prog 9 true [] (.bool true)]) (by kernel_rfl) ⟨pr_examples, trivial⟩ ?_
  refine seq_n ?_
  refine Ok.seqP [true, true] (by kernel_rfl) ?_
  refine Ok.evf (by kernel_rfl) 400 [.d, .d, .d] [1, 2, 3, 6, 7] 1 (st' := (stX .any 167 [(1, .int .i64 n), (2, .int .u8 k), (3, .ptr 0 0), (6, .bool false), (7, .bool true)] [.cells [.list (B.map enc8), .list (R.map enc8), .int .u16 bs]])) (e := .normal) (ob := []) (by kernel_rfl) trivial ?_
  refine seq_n ?_
  refine Ok.seqP [true, true, true] (by kernel_rfl) ?_
  refine Ok.evf (by kernel_rfl) 400 [.d, .d, .f true (.list ((bookF B).map encQ)), .d, .d, .f true (.list ((riskF R).map encK)), .d, .d] [1, 2, 6, 7, 8, 9] 1 (st' := (stX .any 167 [(1, .int .i64 n), (2, .int .u8 k), (6, .bool false), (7, .bool true), (8, .list ((bookF B).map encQ)), (9, .list ((riskF R).map encK))] [.cells [.list (B.map enc8), .list (R.map enc8), .int .u16 bs]])) (e := .normal) (ob := [FnF Try.prog 10 true [.list (B.map enc8)] (.list ((bookF B).map encQ)),
        FnF Try.prog 14 true [.list (R.map enc8)] (.list ((riskF R).map encK))]) (by kernel_rfl) ⟨pr_book (l := B) hB (by omega), pr_risks (l := R) hR (by omega), trivial⟩ ?_
  refine seq_n ?_
  refine Ok.seqP [true, true, true, true] (by kernel_rfl) ?_
  refine Ok.evf (by kernel_rfl) 400 [.f true (.agg [.int .i64 3, .int .i64 1]), .d, .d, .d] [1, 2, 6, 7, 8, 9, 10] 2 (st' := (stX .any 167 [(1, .int .i64 n), (2, .int .u8 k), (6, .bool false), (7, .bool true), (8, .list ((bookF B).map encQ)), (9, .list ((riskF R).map encK)), (10, .ptr 1 0)] [.cells [.list (B.map enc8), .list (R.map enc8), .int .u16 bs], .cells [.int .i64 1, .int .i64 3, .int .i64 1]])) (e := .normal) (ob := [FnF Try.prog 12 true [.int .i64 3] (.agg [.int .i64 3, .int .i64 1])]) (by kernel_rfl) ⟨pi12_42, trivial⟩ ?_
  refine seq_n ?_
  refine Ok.seqP [true, true, true, true, true] (by kernel_rfl) ?_
  refine Ok.evf (by kernel_rfl) 400 [.f true (.agg [.int .i64 3, .int .i64 1]), .d, .d, .d] [1, 2, 6, 7, 8, 9, 10, 11] 3 (st' := (stX .any 167 [(1, .int .i64 n), (2, .int .u8 k), (6, .bool false), (7, .bool true), (8, .list ((bookF B).map encQ)), (9, .list ((riskF R).map encK)), (10, .ptr 1 0), (11, .ptr 2 0)] [.cells [.list (B.map enc8), .list (R.map enc8), .int .u16 bs], .cells [.int .i64 1, .int .i64 3, .int .i64 1], .cells [.int .i64 2, .int .i64 3, .int .i64 1]])) (e := .normal) (ob := [FnF Try.prog 12 true [.int .i64 3] (.agg [.int .i64 3, .int .i64 1])]) (by kernel_rfl) ⟨pi12_42, trivial⟩ ?_
  refine seq_n ?_
  refine Ok.seqP [true, true, true, true, true, true] (by kernel_rfl) ?_
  refine Ok.evf (by kernel_rfl) 400 [.d, .d, .d, .d, .d, .d, .d, .f true (.agg [.int .i64 1, .int .i64 1]), .d, .d, .d, .d, .d, .d, .d, .d, .f true (.agg [.int .i64 1, .int .i64 1]), .d, .d, .d, .d] [1, 2, 6, 7, 8, 9, 10, 11, 12] 10 (st' := (stX .any 167 [(1, .int .i64 n), (2, .int .u8 k), (6, .bool false), (7, .bool true), (8, .list ((bookF B).map encQ)), (9, .list ((riskF R).map encK)), (10, .ptr 1 0), (11, .ptr 2 0), (12, .slice 9 0 6 0)] (mP_refuses_all B R bs))) (e := .normal) (ob := [∀ e ∈ ([.agg [.int .i64 2, .int .i64 3, .int .i64 1], .agg [.int .i64 1, .int .i64 3, .int .i64 1]] : List AV), belowV 10 e = true,
        ∀ e ∈ ([.agg [.int .i64 1, .int .i64 3, .int .i64 1], .agg [.int .i64 1, .int .i64 3, .int .i64 1]] : List AV), belowV 10 e = true,
        ∀ e ∈ ([.agg [.int .i64 1, .int .i64 3, .int .i64 1], .agg [.int .i64 9, .int .i64 1, .int .i64 1]] : List AV), belowV 10 e = true,
        ∀ e ∈ ([.agg [.int .i64 0, .int .i64 (-1), .int .i64 1]] : List AV), belowV 10 e = true,
        ∀ e ∈ ([.agg [.int .i64 0, .int .i64 2, .int .i64 2]] : List AV), belowV 10 e = true,
        ∀ e ∈ ([.agg [.int .i64 (-1), .int .i64 1, .int .i64 1]] : List AV), belowV 10 e = true,
        ∀ e ∈ ([.slice 3 0 2 0, .slice 4 0 2 0, .slice 5 0 2 0, .slice 6 0 1 0, .slice 7 0 1 0, .slice 8 0 1 0] : List AV), belowV 10 e = true,
        FnF Try.prog 12 true [.int .i64 1] (.agg [.int .i64 1, .int .i64 1]),
        FnF Try.prog 12 true [.int .i64 1] (.agg [.int .i64 1, .int .i64 1])]) (by kernel_rfl) ⟨(by simp [belowV, idsOf, idsL, encQ, encW, encK, encC, encF]), (by simp [belowV, idsOf, idsL, encQ, encW, encK, encC, encF]), (by simp [belowV, idsOf, idsL, encQ, encW, encK, encC, encF]), (by simp [belowV, idsOf, idsL, encQ, encW, encK, encC, encF]), (by simp [belowV, idsOf, idsL, encQ, encW, encK, encC, encF]), (by simp [belowV, idsOf, idsL, encQ, encW, encK, encC, encF]), (by simp [belowV, idsOf, idsL, encQ, encW, encK, encC, encF]), ph12_40, ph12_40, trivial⟩ ?_
  refine seq_n ?_
  refine Ok.seqP [true, true, true, true, true, true, true] (by kernel_rfl) ?_
  by_cases q1 : k % 6 = 0
  · refine Ok.evf (by kernel_rfl) 400 [.d, .d, .v (.int .u8 (k % 6)), .d, .e (.slice 3 0 2 0), .d] [1, 6, 7, 8, 9, 10, 11, 13] 10 (st' := (stX .any 167 ((sP_refuses_all B R n) ++ [(13, .slice 3 0 2 0)]) (mP_refuses_all B R bs))) (e := .normal) (ob := [∀ e ∈ ([.agg [.int .i64 2, .int .i64 3, .int .i64 1], .agg [.int .i64 1, .int .i64 3, .int .i64 1]] : List AV), belowV 10 e = true,
        ∀ e ∈ ([.agg [.int .i64 1, .int .i64 3, .int .i64 1], .agg [.int .i64 1, .int .i64 3, .int .i64 1]] : List AV), belowV 10 e = true,
        ∀ e ∈ ([.agg [.int .i64 1, .int .i64 3, .int .i64 1], .agg [.int .i64 9, .int .i64 1, .int .i64 1]] : List AV), belowV 10 e = true,
        ∀ e ∈ ([.agg [.int .i64 0, .int .i64 (-1), .int .i64 1]] : List AV), belowV 10 e = true,
        ∀ e ∈ ([.agg [.int .i64 0, .int .i64 2, .int .i64 2]] : List AV), belowV 10 e = true,
        ∀ e ∈ ([.agg [.int .i64 (-1), .int .i64 1, .int .i64 1]] : List AV), belowV 10 e = true,
        ∀ e ∈ ([.slice 3 0 2 0, .slice 4 0 2 0, .slice 5 0 2 0, .slice 6 0 1 0, .slice 7 0 1 0, .slice 8 0 1 0] : List AV), belowV 10 e = true,
        (.int .u8 (k.tmod 6) : AV) = (.int .u8 (k % 6) : AV),
        (6 : Int) ≠ 0,
        0 ≤ k % 6 ∧ k % 6 < (6 : Nat),
        ([.slice 3 0 2 0, .slice 4 0 2 0, .slice 5 0 2 0, .slice 6 0 1 0, .slice 7 0 1 0, .slice 8 0 1 0])[0 + (k % 6).toNat]? = some (.slice 3 0 2 0 : AV)]) (by kernel_rfl) ⟨(by simp [belowV, idsOf, idsL, encQ, encW, encK, encC, encF]), (by simp [belowV, idsOf, idsL, encQ, encW, encK, encC, encF]), (by simp [belowV, idsOf, idsL, encQ, encW, encK, encC, encF]), (by simp [belowV, idsOf, idsL, encQ, encW, encK, encC, encF]), (by simp [belowV, idsOf, idsL, encQ, encW, encK, encC, encF]), (by simp [belowV, idsOf, idsL, encQ, encW, encK, encC, encF]), (by simp [belowV, idsOf, idsL, encQ, encW, encK, encC, encF]), iI (Int.tmod_eq_emod_of_nonneg (by omega)), (by decide), (by omega), (by rw [show k % 6 = 0 by omega]; rfl), trivial⟩ ?_
    refine seq_n ?_
    refine Ok.seqP [true, true, true, true, true, true, true, true] (by kernel_rfl) ?_
    refine Ok.evf (by kernel_rfl) 400 [.d, .f true (.agg [.int .i64 0, .int .i64 0, .int .i64 1]), .d, .d, .d, .d, .d, .d, .f true (.agg [.list [], .int .i64 1]), .d, .d, .d, .d, .d, .d, .f true (.agg [.int .i64 1, .int .i64 1]), .f true (.agg [.list [], .int .i64 0, .int .i64 0, .int .i64 1]), .d, .d, .d, .d] [1, 6, 7, 8, 9, 10, 11] 10 (st' := (stX .any 167 (sP_refuses_all B R n) (mP_refuses_all B R bs))) (e := .normal) (ob := [∀ e ∈ ([.agg [.int .i64 2, .int .i64 3, .int .i64 1], .agg [.int .i64 1, .int .i64 3, .int .i64 1]] : List AV), belowV 10 e = true,
        ∀ e ∈ ([.agg [.int .i64 1, .int .i64 3, .int .i64 1], .agg [.int .i64 1, .int .i64 3, .int .i64 1]] : List AV), belowV 10 e = true,
        ∀ e ∈ ([.agg [.int .i64 1, .int .i64 3, .int .i64 1], .agg [.int .i64 9, .int .i64 1, .int .i64 1]] : List AV), belowV 10 e = true,
        ∀ e ∈ ([.agg [.int .i64 0, .int .i64 (-1), .int .i64 1]] : List AV), belowV 10 e = true,
        ∀ e ∈ ([.agg [.int .i64 0, .int .i64 2, .int .i64 2]] : List AV), belowV 10 e = true,
        ∀ e ∈ ([.agg [.int .i64 (-1), .int .i64 1, .int .i64 1]] : List AV), belowV 10 e = true,
        ∀ e ∈ ([.slice 3 0 2 0, .slice 4 0 2 0, .slice 5 0 2 0, .slice 6 0 1 0, .slice 7 0 1 0, .slice 8 0 1 0] : List AV), belowV 10 e = true,
        FnF Try.prog 23 true [.list [.agg [.int .i64 2, .int .i64 3, .int .i64 1], .agg [.int .i64 1, .int .i64 3, .int .i64 1]]] (.agg [.int .i64 0, .int .i64 0, .int .i64 1]),
        ∀ e ∈ ([.agg [.int .i64 2, .int .i64 3, .int .i64 1], .agg [.int .i64 1, .int .i64 3, .int .i64 1]] : List AV), idsOf e = [],
        FnF Try.prog 19 true [.list [.agg [.int .i64 2, .int .i64 3, .int .i64 1], .agg [.int .i64 1, .int .i64 3, .int .i64 1]], .list ((bookF B).map encQ), .list ((riskF R).map encK), .int .i64 1] (.agg [.list [], .int .i64 1]),
        ∀ e ∈ ([.agg [.int .i64 2, .int .i64 3, .int .i64 1], .agg [.int .i64 1, .int .i64 3, .int .i64 1]] : List AV), idsOf e = [],
        FnF Try.prog 12 true [.int .i64 1] (.agg [.int .i64 1, .int .i64 1]),
        FnF Try.prog 18 true [.list [.agg [.int .i64 2, .int .i64 3, .int .i64 1], .agg [.int .i64 1, .int .i64 3, .int .i64 1]], .agg [.int .i64 0, .int .i64 1, .int .i64 0, .int .i64 0], .int .i64 2, .agg [.int .i64 1, .int .i64 1]] (.agg [.list [], .int .i64 0, .int .i64 0, .int .i64 1]),
        ∀ e ∈ ([.agg [.int .i64 2, .int .i64 3, .int .i64 1], .agg [.int .i64 1, .int .i64 3, .int .i64 1]] : List AV), idsOf e = []]) (by kernel_rfl) ⟨(by simp [belowV, idsOf, idsL, encQ, encW, encK, encC, encF]), (by simp [belowV, idsOf, idsL, encQ, encW, encK, encC, encF]), (by simp [belowV, idsOf, idsL, encQ, encW, encK, encC, encF]), (by simp [belowV, idsOf, idsL, encQ, encW, encK, encC, encF]), (by simp [belowV, idsOf, idsL, encQ, encW, encK, encC, encF]), (by simp [belowV, idsOf, idsL, encQ, encW, encK, encC, encF]), (by simp [belowV, idsOf, idsL, encQ, encW, encK, encC, encF]), pi23_43, (by simp [idsOf, idsL, encQ, encW, encK, encC, encF]), (pi19_44 hB hBl hR hRl hbs hn hk kb1 kb2 ko1 ko2 kp1 kp2 krl k6 q1), (by simp [idsOf, idsL, encQ, encW, encK, encC, encF]), ph12_40, pi18_45, (by simp [idsOf, idsL, encQ, encW, encK, encC, encF]), trivial⟩ ?_
    refine seq_n ?_
    exact refuses_all_t0 hB hBl hR hRl hbs hn hk
  · by_cases q2 : k % 6 = 1
    · refine Ok.evf (by kernel_rfl) 400 [.d, .d, .v (.int .u8 (k % 6)), .d, .e (.slice 4 0 2 0), .d] [1, 6, 7, 8, 9, 10, 11, 13] 10 (st' := (stX .any 167 ((sP_refuses_all B R n) ++ [(13, .slice 4 0 2 0)]) (mP_refuses_all B R bs))) (e := .normal) (ob := [∀ e ∈ ([.agg [.int .i64 2, .int .i64 3, .int .i64 1], .agg [.int .i64 1, .int .i64 3, .int .i64 1]] : List AV), belowV 10 e = true,
        ∀ e ∈ ([.agg [.int .i64 1, .int .i64 3, .int .i64 1], .agg [.int .i64 1, .int .i64 3, .int .i64 1]] : List AV), belowV 10 e = true,
        ∀ e ∈ ([.agg [.int .i64 1, .int .i64 3, .int .i64 1], .agg [.int .i64 9, .int .i64 1, .int .i64 1]] : List AV), belowV 10 e = true,
        ∀ e ∈ ([.agg [.int .i64 0, .int .i64 (-1), .int .i64 1]] : List AV), belowV 10 e = true,
        ∀ e ∈ ([.agg [.int .i64 0, .int .i64 2, .int .i64 2]] : List AV), belowV 10 e = true,
        ∀ e ∈ ([.agg [.int .i64 (-1), .int .i64 1, .int .i64 1]] : List AV), belowV 10 e = true,
        ∀ e ∈ ([.slice 3 0 2 0, .slice 4 0 2 0, .slice 5 0 2 0, .slice 6 0 1 0, .slice 7 0 1 0, .slice 8 0 1 0] : List AV), belowV 10 e = true,
        (.int .u8 (k.tmod 6) : AV) = (.int .u8 (k % 6) : AV),
        (6 : Int) ≠ 0,
        0 ≤ k % 6 ∧ k % 6 < (6 : Nat),
        ([.slice 3 0 2 0, .slice 4 0 2 0, .slice 5 0 2 0, .slice 6 0 1 0, .slice 7 0 1 0, .slice 8 0 1 0])[0 + (k % 6).toNat]? = some (.slice 4 0 2 0 : AV)]) (by kernel_rfl) ⟨(by simp [belowV, idsOf, idsL, encQ, encW, encK, encC, encF]), (by simp [belowV, idsOf, idsL, encQ, encW, encK, encC, encF]), (by simp [belowV, idsOf, idsL, encQ, encW, encK, encC, encF]), (by simp [belowV, idsOf, idsL, encQ, encW, encK, encC, encF]), (by simp [belowV, idsOf, idsL, encQ, encW, encK, encC, encF]), (by simp [belowV, idsOf, idsL, encQ, encW, encK, encC, encF]), (by simp [belowV, idsOf, idsL, encQ, encW, encK, encC, encF]), iI (Int.tmod_eq_emod_of_nonneg (by omega)), (by decide), (by omega), (by rw [show k % 6 = 1 by omega]; rfl), trivial⟩ ?_
      refine seq_n ?_
      refine Ok.seqP [true, true, true, true, true, true, true, true] (by kernel_rfl) ?_
      refine Ok.evf (by kernel_rfl) 400 [.d, .f true (.agg [.int .i64 0, .int .i64 0, .int .i64 1]), .d, .d, .d, .d, .d, .d, .f true (.agg [.list [], .int .i64 1]), .d, .d, .d, .d, .d, .d, .f true (.agg [.int .i64 1, .int .i64 1]), .f true (.agg [.list [], .int .i64 0, .int .i64 0, .int .i64 1]), .d, .d, .d, .d] [1, 6, 7, 8, 9, 10, 11] 10 (st' := (stX .any 167 (sP_refuses_all B R n) (mP_refuses_all B R bs))) (e := .normal) (ob := [∀ e ∈ ([.agg [.int .i64 2, .int .i64 3, .int .i64 1], .agg [.int .i64 1, .int .i64 3, .int .i64 1]] : List AV), belowV 10 e = true,
        ∀ e ∈ ([.agg [.int .i64 1, .int .i64 3, .int .i64 1], .agg [.int .i64 1, .int .i64 3, .int .i64 1]] : List AV), belowV 10 e = true,
        ∀ e ∈ ([.agg [.int .i64 1, .int .i64 3, .int .i64 1], .agg [.int .i64 9, .int .i64 1, .int .i64 1]] : List AV), belowV 10 e = true,
        ∀ e ∈ ([.agg [.int .i64 0, .int .i64 (-1), .int .i64 1]] : List AV), belowV 10 e = true,
        ∀ e ∈ ([.agg [.int .i64 0, .int .i64 2, .int .i64 2]] : List AV), belowV 10 e = true,
        ∀ e ∈ ([.agg [.int .i64 (-1), .int .i64 1, .int .i64 1]] : List AV), belowV 10 e = true,
        ∀ e ∈ ([.slice 3 0 2 0, .slice 4 0 2 0, .slice 5 0 2 0, .slice 6 0 1 0, .slice 7 0 1 0, .slice 8 0 1 0] : List AV), belowV 10 e = true,
        FnF Try.prog 23 true [.list [.agg [.int .i64 1, .int .i64 3, .int .i64 1], .agg [.int .i64 1, .int .i64 3, .int .i64 1]]] (.agg [.int .i64 0, .int .i64 0, .int .i64 1]),
        ∀ e ∈ ([.agg [.int .i64 1, .int .i64 3, .int .i64 1], .agg [.int .i64 1, .int .i64 3, .int .i64 1]] : List AV), idsOf e = [],
        FnF Try.prog 19 true [.list [.agg [.int .i64 1, .int .i64 3, .int .i64 1], .agg [.int .i64 1, .int .i64 3, .int .i64 1]], .list ((bookF B).map encQ), .list ((riskF R).map encK), .int .i64 1] (.agg [.list [], .int .i64 1]),
        ∀ e ∈ ([.agg [.int .i64 1, .int .i64 3, .int .i64 1], .agg [.int .i64 1, .int .i64 3, .int .i64 1]] : List AV), idsOf e = [],
        FnF Try.prog 12 true [.int .i64 1] (.agg [.int .i64 1, .int .i64 1]),
        FnF Try.prog 18 true [.list [.agg [.int .i64 1, .int .i64 3, .int .i64 1], .agg [.int .i64 1, .int .i64 3, .int .i64 1]], .agg [.int .i64 0, .int .i64 1, .int .i64 0, .int .i64 0], .int .i64 2, .agg [.int .i64 1, .int .i64 1]] (.agg [.list [], .int .i64 0, .int .i64 0, .int .i64 1]),
        ∀ e ∈ ([.agg [.int .i64 1, .int .i64 3, .int .i64 1], .agg [.int .i64 1, .int .i64 3, .int .i64 1]] : List AV), idsOf e = []]) (by kernel_rfl) ⟨(by simp [belowV, idsOf, idsL, encQ, encW, encK, encC, encF]), (by simp [belowV, idsOf, idsL, encQ, encW, encK, encC, encF]), (by simp [belowV, idsOf, idsL, encQ, encW, encK, encC, encF]), (by simp [belowV, idsOf, idsL, encQ, encW, encK, encC, encF]), (by simp [belowV, idsOf, idsL, encQ, encW, encK, encC, encF]), (by simp [belowV, idsOf, idsL, encQ, encW, encK, encC, encF]), (by simp [belowV, idsOf, idsL, encQ, encW, encK, encC, encF]), pi23_59, (by simp [idsOf, idsL, encQ, encW, encK, encC, encF]), (pi19_60 hB hBl hR hRl hbs hn hk kb1 kb2 ko1 ko2 kp1 kp2 krl k6 q1 q2), (by simp [idsOf, idsL, encQ, encW, encK, encC, encF]), ph12_40, pi18_61, (by simp [idsOf, idsL, encQ, encW, encK, encC, encF]), trivial⟩ ?_
      refine seq_n ?_
      exact refuses_all_t0 hB hBl hR hRl hbs hn hk
    · by_cases q3 : k % 6 = 2
      · refine Ok.evf (by kernel_rfl) 400 [.d, .d, .v (.int .u8 (k % 6)), .d, .e (.slice 5 0 2 0), .d] [1, 6, 7, 8, 9, 10, 11, 13] 10 (st' := (stX .any 167 ((sP_refuses_all B R n) ++ [(13, .slice 5 0 2 0)]) (mP_refuses_all B R bs))) (e := .normal) (ob := [∀ e ∈ ([.agg [.int .i64 2, .int .i64 3, .int .i64 1], .agg [.int .i64 1, .int .i64 3, .int .i64 1]] : List AV), belowV 10 e = true,
        ∀ e ∈ ([.agg [.int .i64 1, .int .i64 3, .int .i64 1], .agg [.int .i64 1, .int .i64 3, .int .i64 1]] : List AV), belowV 10 e = true,
        ∀ e ∈ ([.agg [.int .i64 1, .int .i64 3, .int .i64 1], .agg [.int .i64 9, .int .i64 1, .int .i64 1]] : List AV), belowV 10 e = true,
        ∀ e ∈ ([.agg [.int .i64 0, .int .i64 (-1), .int .i64 1]] : List AV), belowV 10 e = true,
        ∀ e ∈ ([.agg [.int .i64 0, .int .i64 2, .int .i64 2]] : List AV), belowV 10 e = true,
        ∀ e ∈ ([.agg [.int .i64 (-1), .int .i64 1, .int .i64 1]] : List AV), belowV 10 e = true,
        ∀ e ∈ ([.slice 3 0 2 0, .slice 4 0 2 0, .slice 5 0 2 0, .slice 6 0 1 0, .slice 7 0 1 0, .slice 8 0 1 0] : List AV), belowV 10 e = true,
        (.int .u8 (k.tmod 6) : AV) = (.int .u8 (k % 6) : AV),
        (6 : Int) ≠ 0,
        0 ≤ k % 6 ∧ k % 6 < (6 : Nat),
        ([.slice 3 0 2 0, .slice 4 0 2 0, .slice 5 0 2 0, .slice 6 0 1 0, .slice 7 0 1 0, .slice 8 0 1 0])[0 + (k % 6).toNat]? = some (.slice 5 0 2 0 : AV)]) (by kernel_rfl) ⟨(by simp [belowV, idsOf, idsL, encQ, encW, encK, encC, encF]), (by simp [belowV, idsOf, idsL, encQ, encW, encK, encC, encF]), (by simp [belowV, idsOf, idsL, encQ, encW, encK, encC, encF]), (by simp [belowV, idsOf, idsL, encQ, encW, encK, encC, encF]), (by simp [belowV, idsOf, idsL, encQ, encW, encK, encC, encF]), (by simp [belowV, idsOf, idsL, encQ, encW, encK, encC, encF]), (by simp [belowV, idsOf, idsL, encQ, encW, encK, encC, encF]), iI (Int.tmod_eq_emod_of_nonneg (by omega)), (by decide), (by omega), (by rw [show k % 6 = 2 by omega]; rfl), trivial⟩ ?_
        refine seq_n ?_
        refine Ok.seqP [true, true, true, true, true, true, true, true] (by kernel_rfl) ?_
        refine Ok.evf (by kernel_rfl) 400 [.d, .f true (.agg [.int .i64 0, .int .i64 0, .int .i64 1]), .d, .d, .d, .d, .d, .d, .f true (.agg [.list [], .int .i64 1]), .d, .d, .d, .d, .d, .d, .f true (.agg [.int .i64 1, .int .i64 1]), .f true (.agg [.list [], .int .i64 0, .int .i64 0, .int .i64 1]), .d, .d, .d, .d] [1, 6, 7, 8, 9, 10, 11] 10 (st' := (stX .any 167 (sP_refuses_all B R n) (mP_refuses_all B R bs))) (e := .normal) (ob := [∀ e ∈ ([.agg [.int .i64 2, .int .i64 3, .int .i64 1], .agg [.int .i64 1, .int .i64 3, .int .i64 1]] : List AV), belowV 10 e = true,
        ∀ e ∈ ([.agg [.int .i64 1, .int .i64 3, .int .i64 1], .agg [.int .i64 1, .int .i64 3, .int .i64 1]] : List AV), belowV 10 e = true,
        ∀ e ∈ ([.agg [.int .i64 1, .int .i64 3, .int .i64 1], .agg [.int .i64 9, .int .i64 1, .int .i64 1]] : List AV), belowV 10 e = true,
        ∀ e ∈ ([.agg [.int .i64 0, .int .i64 (-1), .int .i64 1]] : List AV), belowV 10 e = true,
        ∀ e ∈ ([.agg [.int .i64 0, .int .i64 2, .int .i64 2]] : List AV), belowV 10 e = true,
        ∀ e ∈ ([.agg [.int .i64 (-1), .int .i64 1, .int .i64 1]] : List AV), belowV 10 e = true,
        ∀ e ∈ ([.slice 3 0 2 0, .slice 4 0 2 0, .slice 5 0 2 0, .slice 6 0 1 0, .slice 7 0 1 0, .slice 8 0 1 0] : List AV), belowV 10 e = true,
        FnF Try.prog 23 true [.list [.agg [.int .i64 1, .int .i64 3, .int .i64 1], .agg [.int .i64 9, .int .i64 1, .int .i64 1]]] (.agg [.int .i64 0, .int .i64 0, .int .i64 1]),
        ∀ e ∈ ([.agg [.int .i64 1, .int .i64 3, .int .i64 1], .agg [.int .i64 9, .int .i64 1, .int .i64 1]] : List AV), idsOf e = [],
        FnF Try.prog 19 true [.list [.agg [.int .i64 1, .int .i64 3, .int .i64 1], .agg [.int .i64 9, .int .i64 1, .int .i64 1]], .list ((bookF B).map encQ), .list ((riskF R).map encK), .int .i64 1] (.agg [.list [], .int .i64 1]),
        ∀ e ∈ ([.agg [.int .i64 1, .int .i64 3, .int .i64 1], .agg [.int .i64 9, .int .i64 1, .int .i64 1]] : List AV), idsOf e = [],
        FnF Try.prog 12 true [.int .i64 1] (.agg [.int .i64 1, .int .i64 1]),
        FnF Try.prog 18 true [.list [.agg [.int .i64 1, .int .i64 3, .int .i64 1], .agg [.int .i64 9, .int .i64 1, .int .i64 1]], .agg [.int .i64 0, .int .i64 1, .int .i64 0, .int .i64 0], .int .i64 2, .agg [.int .i64 1, .int .i64 1]] (.agg [.list [], .int .i64 0, .int .i64 0, .int .i64 1]),
        ∀ e ∈ ([.agg [.int .i64 1, .int .i64 3, .int .i64 1], .agg [.int .i64 9, .int .i64 1, .int .i64 1]] : List AV), idsOf e = []]) (by kernel_rfl) ⟨(by simp [belowV, idsOf, idsL, encQ, encW, encK, encC, encF]), (by simp [belowV, idsOf, idsL, encQ, encW, encK, encC, encF]), (by simp [belowV, idsOf, idsL, encQ, encW, encK, encC, encF]), (by simp [belowV, idsOf, idsL, encQ, encW, encK, encC, encF]), (by simp [belowV, idsOf, idsL, encQ, encW, encK, encC, encF]), (by simp [belowV, idsOf, idsL, encQ, encW, encK, encC, encF]), (by simp [belowV, idsOf, idsL, encQ, encW, encK, encC, encF]), pi23_62, (by simp [idsOf, idsL, encQ, encW, encK, encC, encF]), (pi19_63 hB hBl hR hRl hbs hn hk kb1 kb2 ko1 ko2 kp1 kp2 krl k6 q1 q2 q3), (by simp [idsOf, idsL, encQ, encW, encK, encC, encF]), ph12_40, pi18_64, (by simp [idsOf, idsL, encQ, encW, encK, encC, encF]), trivial⟩ ?_
        refine seq_n ?_
        exact refuses_all_t0 hB hBl hR hRl hbs hn hk
      · by_cases q4 : k % 6 = 3
        · refine Ok.evf (by kernel_rfl) 400 [.d, .d, .v (.int .u8 (k % 6)), .d, .e (.slice 6 0 1 0), .d] [1, 6, 7, 8, 9, 10, 11, 13] 10 (st' := (stX .any 167 ((sP_refuses_all B R n) ++ [(13, .slice 6 0 1 0)]) (mP_refuses_all B R bs))) (e := .normal) (ob := [∀ e ∈ ([.agg [.int .i64 2, .int .i64 3, .int .i64 1], .agg [.int .i64 1, .int .i64 3, .int .i64 1]] : List AV), belowV 10 e = true,
        ∀ e ∈ ([.agg [.int .i64 1, .int .i64 3, .int .i64 1], .agg [.int .i64 1, .int .i64 3, .int .i64 1]] : List AV), belowV 10 e = true,
        ∀ e ∈ ([.agg [.int .i64 1, .int .i64 3, .int .i64 1], .agg [.int .i64 9, .int .i64 1, .int .i64 1]] : List AV), belowV 10 e = true,
        ∀ e ∈ ([.agg [.int .i64 0, .int .i64 (-1), .int .i64 1]] : List AV), belowV 10 e = true,
        ∀ e ∈ ([.agg [.int .i64 0, .int .i64 2, .int .i64 2]] : List AV), belowV 10 e = true,
        ∀ e ∈ ([.agg [.int .i64 (-1), .int .i64 1, .int .i64 1]] : List AV), belowV 10 e = true,
        ∀ e ∈ ([.slice 3 0 2 0, .slice 4 0 2 0, .slice 5 0 2 0, .slice 6 0 1 0, .slice 7 0 1 0, .slice 8 0 1 0] : List AV), belowV 10 e = true,
        (.int .u8 (k.tmod 6) : AV) = (.int .u8 (k % 6) : AV),
        (6 : Int) ≠ 0,
        0 ≤ k % 6 ∧ k % 6 < (6 : Nat),
        ([.slice 3 0 2 0, .slice 4 0 2 0, .slice 5 0 2 0, .slice 6 0 1 0, .slice 7 0 1 0, .slice 8 0 1 0])[0 + (k % 6).toNat]? = some (.slice 6 0 1 0 : AV)]) (by kernel_rfl) ⟨(by simp [belowV, idsOf, idsL, encQ, encW, encK, encC, encF]), (by simp [belowV, idsOf, idsL, encQ, encW, encK, encC, encF]), (by simp [belowV, idsOf, idsL, encQ, encW, encK, encC, encF]), (by simp [belowV, idsOf, idsL, encQ, encW, encK, encC, encF]), (by simp [belowV, idsOf, idsL, encQ, encW, encK, encC, encF]), (by simp [belowV, idsOf, idsL, encQ, encW, encK, encC, encF]), (by simp [belowV, idsOf, idsL, encQ, encW, encK, encC, encF]), iI (Int.tmod_eq_emod_of_nonneg (by omega)), (by decide), (by omega), (by rw [show k % 6 = 3 by omega]; rfl), trivial⟩ ?_
          refine seq_n ?_
          refine Ok.seqP [true, true, true, true, true, true, true, true] (by kernel_rfl) ?_
          refine Ok.evf (by kernel_rfl) 400 [.d, .f true (.agg [.int .i64 0, .int .i64 0, .int .i64 1]), .d, .d, .d, .d, .d, .d, .f true (.agg [.list [], .int .i64 1]), .d, .d, .d, .d, .d, .d, .f true (.agg [.int .i64 1, .int .i64 1]), .f true (.agg [.list [], .int .i64 0, .int .i64 0, .int .i64 1]), .d, .d, .d, .d] [1, 6, 7, 8, 9, 10, 11] 10 (st' := (stX .any 167 (sP_refuses_all B R n) (mP_refuses_all B R bs))) (e := .normal) (ob := [∀ e ∈ ([.agg [.int .i64 2, .int .i64 3, .int .i64 1], .agg [.int .i64 1, .int .i64 3, .int .i64 1]] : List AV), belowV 10 e = true,
        ∀ e ∈ ([.agg [.int .i64 1, .int .i64 3, .int .i64 1], .agg [.int .i64 1, .int .i64 3, .int .i64 1]] : List AV), belowV 10 e = true,
        ∀ e ∈ ([.agg [.int .i64 1, .int .i64 3, .int .i64 1], .agg [.int .i64 9, .int .i64 1, .int .i64 1]] : List AV), belowV 10 e = true,
        ∀ e ∈ ([.agg [.int .i64 0, .int .i64 (-1), .int .i64 1]] : List AV), belowV 10 e = true,
        ∀ e ∈ ([.agg [.int .i64 0, .int .i64 2, .int .i64 2]] : List AV), belowV 10 e = true,
        ∀ e ∈ ([.agg [.int .i64 (-1), .int .i64 1, .int .i64 1]] : List AV), belowV 10 e = true,
        ∀ e ∈ ([.slice 3 0 2 0, .slice 4 0 2 0, .slice 5 0 2 0, .slice 6 0 1 0, .slice 7 0 1 0, .slice 8 0 1 0] : List AV), belowV 10 e = true,
        FnF Try.prog 23 true [.list [.agg [.int .i64 0, .int .i64 (-1), .int .i64 1]]] (.agg [.int .i64 0, .int .i64 0, .int .i64 1]),
        ∀ e ∈ ([.agg [.int .i64 0, .int .i64 (-1), .int .i64 1]] : List AV), idsOf e = [],
        FnF Try.prog 19 true [.list [.agg [.int .i64 0, .int .i64 (-1), .int .i64 1]], .list ((bookF B).map encQ), .list ((riskF R).map encK), .int .i64 1] (.agg [.list [], .int .i64 1]),
        ∀ e ∈ ([.agg [.int .i64 0, .int .i64 (-1), .int .i64 1]] : List AV), idsOf e = [],
        FnF Try.prog 12 true [.int .i64 1] (.agg [.int .i64 1, .int .i64 1]),
        FnF Try.prog 18 true [.list [.agg [.int .i64 0, .int .i64 (-1), .int .i64 1]], .agg [.int .i64 0, .int .i64 1, .int .i64 0, .int .i64 0], .int .i64 2, .agg [.int .i64 1, .int .i64 1]] (.agg [.list [], .int .i64 0, .int .i64 0, .int .i64 1]),
        ∀ e ∈ ([.agg [.int .i64 0, .int .i64 (-1), .int .i64 1]] : List AV), idsOf e = []]) (by kernel_rfl) ⟨(by simp [belowV, idsOf, idsL, encQ, encW, encK, encC, encF]), (by simp [belowV, idsOf, idsL, encQ, encW, encK, encC, encF]), (by simp [belowV, idsOf, idsL, encQ, encW, encK, encC, encF]), (by simp [belowV, idsOf, idsL, encQ, encW, encK, encC, encF]), (by simp [belowV, idsOf, idsL, encQ, encW, encK, encC, encF]), (by simp [belowV, idsOf, idsL, encQ, encW, encK, encC, encF]), (by simp [belowV, idsOf, idsL, encQ, encW, encK, encC, encF]), pi23_65, (by simp [idsOf, idsL, encQ, encW, encK, encC, encF]), (pi19_66 hB hBl hR hRl hbs hn hk kb1 kb2 ko1 ko2 kp1 kp2 krl k6 q1 q2 q3 q4), (by simp [idsOf, idsL, encQ, encW, encK, encC, encF]), ph12_40, pi18_67, (by simp [idsOf, idsL, encQ, encW, encK, encC, encF]), trivial⟩ ?_
          refine seq_n ?_
          exact refuses_all_t0 hB hBl hR hRl hbs hn hk
        · by_cases q5 : k % 6 = 4
          · refine Ok.evf (by kernel_rfl) 400 [.d, .d, .v (.int .u8 (k % 6)), .d, .e (.slice 7 0 1 0), .d] [1, 6, 7, 8, 9, 10, 11, 13] 10 (st' := (stX .any 167 ((sP_refuses_all B R n) ++ [(13, .slice 7 0 1 0)]) (mP_refuses_all B R bs))) (e := .normal) (ob := [∀ e ∈ ([.agg [.int .i64 2, .int .i64 3, .int .i64 1], .agg [.int .i64 1, .int .i64 3, .int .i64 1]] : List AV), belowV 10 e = true,
        ∀ e ∈ ([.agg [.int .i64 1, .int .i64 3, .int .i64 1], .agg [.int .i64 1, .int .i64 3, .int .i64 1]] : List AV), belowV 10 e = true,
        ∀ e ∈ ([.agg [.int .i64 1, .int .i64 3, .int .i64 1], .agg [.int .i64 9, .int .i64 1, .int .i64 1]] : List AV), belowV 10 e = true,
        ∀ e ∈ ([.agg [.int .i64 0, .int .i64 (-1), .int .i64 1]] : List AV), belowV 10 e = true,
        ∀ e ∈ ([.agg [.int .i64 0, .int .i64 2, .int .i64 2]] : List AV), belowV 10 e = true,
        ∀ e ∈ ([.agg [.int .i64 (-1), .int .i64 1, .int .i64 1]] : List AV), belowV 10 e = true,
        ∀ e ∈ ([.slice 3 0 2 0, .slice 4 0 2 0, .slice 5 0 2 0, .slice 6 0 1 0, .slice 7 0 1 0, .slice 8 0 1 0] : List AV), belowV 10 e = true,
        (.int .u8 (k.tmod 6) : AV) = (.int .u8 (k % 6) : AV),
        (6 : Int) ≠ 0,
        0 ≤ k % 6 ∧ k % 6 < (6 : Nat),
        ([.slice 3 0 2 0, .slice 4 0 2 0, .slice 5 0 2 0, .slice 6 0 1 0, .slice 7 0 1 0, .slice 8 0 1 0])[0 + (k % 6).toNat]? = some (.slice 7 0 1 0 : AV)]) (by kernel_rfl) ⟨(by simp [belowV, idsOf, idsL, encQ, encW, encK, encC, encF]), (by simp [belowV, idsOf, idsL, encQ, encW, encK, encC, encF]), (by simp [belowV, idsOf, idsL, encQ, encW, encK, encC, encF]), (by simp [belowV, idsOf, idsL, encQ, encW, encK, encC, encF]), (by simp [belowV, idsOf, idsL, encQ, encW, encK, encC, encF]), (by simp [belowV, idsOf, idsL, encQ, encW, encK, encC, encF]), (by simp [belowV, idsOf, idsL, encQ, encW, encK, encC, encF]), iI (Int.tmod_eq_emod_of_nonneg (by omega)), (by decide), (by omega), (by rw [show k % 6 = 4 by omega]; rfl), trivial⟩ ?_
            refine seq_n ?_
            refine Ok.seqP [true, true, true, true, true, true, true, true] (by kernel_rfl) ?_
            refine Ok.evf (by kernel_rfl) 400 [.d, .f true (.agg [.int .i64 0, .int .i64 0, .int .i64 1]), .d, .d, .d, .d, .d, .d, .f true (.agg [.list [], .int .i64 1]), .d, .d, .d, .d, .d, .d, .f true (.agg [.int .i64 1, .int .i64 1]), .f true (.agg [.list [], .int .i64 0, .int .i64 0, .int .i64 1]), .d, .d, .d, .d] [1, 6, 7, 8, 9, 10, 11] 10 (st' := (stX .any 167 (sP_refuses_all B R n) (mP_refuses_all B R bs))) (e := .normal) (ob := [∀ e ∈ ([.agg [.int .i64 2, .int .i64 3, .int .i64 1], .agg [.int .i64 1, .int .i64 3, .int .i64 1]] : List AV), belowV 10 e = true,
        ∀ e ∈ ([.agg [.int .i64 1, .int .i64 3, .int .i64 1], .agg [.int .i64 1, .int .i64 3, .int .i64 1]] : List AV), belowV 10 e = true,
        ∀ e ∈ ([.agg [.int .i64 1, .int .i64 3, .int .i64 1], .agg [.int .i64 9, .int .i64 1, .int .i64 1]] : List AV), belowV 10 e = true,
        ∀ e ∈ ([.agg [.int .i64 0, .int .i64 (-1), .int .i64 1]] : List AV), belowV 10 e = true,
        ∀ e ∈ ([.agg [.int .i64 0, .int .i64 2, .int .i64 2]] : List AV), belowV 10 e = true,
        ∀ e ∈ ([.agg [.int .i64 (-1), .int .i64 1, .int .i64 1]] : List AV), belowV 10 e = true,
        ∀ e ∈ ([.slice 3 0 2 0, .slice 4 0 2 0, .slice 5 0 2 0, .slice 6 0 1 0, .slice 7 0 1 0, .slice 8 0 1 0] : List AV), belowV 10 e = true,
        FnF Try.prog 23 true [.list [.agg [.int .i64 0, .int .i64 2, .int .i64 2]]] (.agg [.int .i64 0, .int .i64 0, .int .i64 1]),
        ∀ e ∈ ([.agg [.int .i64 0, .int .i64 2, .int .i64 2]] : List AV), idsOf e = [],
        FnF Try.prog 19 true [.list [.agg [.int .i64 0, .int .i64 2, .int .i64 2]], .list ((bookF B).map encQ), .list ((riskF R).map encK), .int .i64 1] (.agg [.list [], .int .i64 1]),
        ∀ e ∈ ([.agg [.int .i64 0, .int .i64 2, .int .i64 2]] : List AV), idsOf e = [],
        FnF Try.prog 12 true [.int .i64 1] (.agg [.int .i64 1, .int .i64 1]),
        FnF Try.prog 18 true [.list [.agg [.int .i64 0, .int .i64 2, .int .i64 2]], .agg [.int .i64 0, .int .i64 1, .int .i64 0, .int .i64 0], .int .i64 2, .agg [.int .i64 1, .int .i64 1]] (.agg [.list [], .int .i64 0, .int .i64 0, .int .i64 1]),
        ∀ e ∈ ([.agg [.int .i64 0, .int .i64 2, .int .i64 2]] : List AV), idsOf e = []]) (by kernel_rfl) ⟨(by simp [belowV, idsOf, idsL, encQ, encW, encK, encC, encF]), (by simp [belowV, idsOf, idsL, encQ, encW, encK, encC, encF]), (by simp [belowV, idsOf, idsL, encQ, encW, encK, encC, encF]), (by simp [belowV, idsOf, idsL, encQ, encW, encK, encC, encF]), (by simp [belowV, idsOf, idsL, encQ, encW, encK, encC, encF]), (by simp [belowV, idsOf, idsL, encQ, encW, encK, encC, encF]), (by simp [belowV, idsOf, idsL, encQ, encW, encK, encC, encF]), pi23_68, (by simp [idsOf, idsL, encQ, encW, encK, encC, encF]), (pi19_69 hB hBl hR hRl hbs hn hk kb1 kb2 ko1 ko2 kp1 kp2 krl k6 q1 q2 q3 q4 q5), (by simp [idsOf, idsL, encQ, encW, encK, encC, encF]), ph12_40, pi18_70, (by simp [idsOf, idsL, encQ, encW, encK, encC, encF]), trivial⟩ ?_
            refine seq_n ?_
            exact refuses_all_t0 hB hBl hR hRl hbs hn hk
          · refine Ok.evf (by kernel_rfl) 400 [.d, .d, .v (.int .u8 (k % 6)), .d, .e (.slice 8 0 1 0), .d] [1, 6, 7, 8, 9, 10, 11, 13] 10 (st' := (stX .any 167 ((sP_refuses_all B R n) ++ [(13, .slice 8 0 1 0)]) (mP_refuses_all B R bs))) (e := .normal) (ob := [∀ e ∈ ([.agg [.int .i64 2, .int .i64 3, .int .i64 1], .agg [.int .i64 1, .int .i64 3, .int .i64 1]] : List AV), belowV 10 e = true,
        ∀ e ∈ ([.agg [.int .i64 1, .int .i64 3, .int .i64 1], .agg [.int .i64 1, .int .i64 3, .int .i64 1]] : List AV), belowV 10 e = true,
        ∀ e ∈ ([.agg [.int .i64 1, .int .i64 3, .int .i64 1], .agg [.int .i64 9, .int .i64 1, .int .i64 1]] : List AV), belowV 10 e = true,
        ∀ e ∈ ([.agg [.int .i64 0, .int .i64 (-1), .int .i64 1]] : List AV), belowV 10 e = true,
        ∀ e ∈ ([.agg [.int .i64 0, .int .i64 2, .int .i64 2]] : List AV), belowV 10 e = true,
        ∀ e ∈ ([.agg [.int .i64 (-1), .int .i64 1, .int .i64 1]] : List AV), belowV 10 e = true,
        ∀ e ∈ ([.slice 3 0 2 0, .slice 4 0 2 0, .slice 5 0 2 0, .slice 6 0 1 0, .slice 7 0 1 0, .slice 8 0 1 0] : List AV), belowV 10 e = true,
        (.int .u8 (k.tmod 6) : AV) = (.int .u8 (k % 6) : AV),
        (6 : Int) ≠ 0,
        0 ≤ k % 6 ∧ k % 6 < (6 : Nat),
        ([.slice 3 0 2 0, .slice 4 0 2 0, .slice 5 0 2 0, .slice 6 0 1 0, .slice 7 0 1 0, .slice 8 0 1 0])[0 + (k % 6).toNat]? = some (.slice 8 0 1 0 : AV)]) (by kernel_rfl) ⟨(by simp [belowV, idsOf, idsL, encQ, encW, encK, encC, encF]), (by simp [belowV, idsOf, idsL, encQ, encW, encK, encC, encF]), (by simp [belowV, idsOf, idsL, encQ, encW, encK, encC, encF]), (by simp [belowV, idsOf, idsL, encQ, encW, encK, encC, encF]), (by simp [belowV, idsOf, idsL, encQ, encW, encK, encC, encF]), (by simp [belowV, idsOf, idsL, encQ, encW, encK, encC, encF]), (by simp [belowV, idsOf, idsL, encQ, encW, encK, encC, encF]), iI (Int.tmod_eq_emod_of_nonneg (by omega)), (by decide), (by omega), (by rw [show k % 6 = 5 by omega]; rfl), trivial⟩ ?_
            refine seq_n ?_
            refine Ok.seqP [true, true, true, true, true, true, true, true] (by kernel_rfl) ?_
            refine Ok.evf (by kernel_rfl) 400 [.d, .f true (.agg [.int .i64 0, .int .i64 0, .int .i64 1]), .d, .d, .d, .d, .d, .d, .f true (.agg [.list [], .int .i64 1]), .d, .d, .d, .d, .d, .d, .f true (.agg [.int .i64 1, .int .i64 1]), .f true (.agg [.list [], .int .i64 0, .int .i64 0, .int .i64 1]), .d, .d, .d, .d] [1, 6, 7, 8, 9, 10, 11] 10 (st' := (stX .any 167 (sP_refuses_all B R n) (mP_refuses_all B R bs))) (e := .normal) (ob := [∀ e ∈ ([.agg [.int .i64 2, .int .i64 3, .int .i64 1], .agg [.int .i64 1, .int .i64 3, .int .i64 1]] : List AV), belowV 10 e = true,
        ∀ e ∈ ([.agg [.int .i64 1, .int .i64 3, .int .i64 1], .agg [.int .i64 1, .int .i64 3, .int .i64 1]] : List AV), belowV 10 e = true,
        ∀ e ∈ ([.agg [.int .i64 1, .int .i64 3, .int .i64 1], .agg [.int .i64 9, .int .i64 1, .int .i64 1]] : List AV), belowV 10 e = true,
        ∀ e ∈ ([.agg [.int .i64 0, .int .i64 (-1), .int .i64 1]] : List AV), belowV 10 e = true,
        ∀ e ∈ ([.agg [.int .i64 0, .int .i64 2, .int .i64 2]] : List AV), belowV 10 e = true,
        ∀ e ∈ ([.agg [.int .i64 (-1), .int .i64 1, .int .i64 1]] : List AV), belowV 10 e = true,
        ∀ e ∈ ([.slice 3 0 2 0, .slice 4 0 2 0, .slice 5 0 2 0, .slice 6 0 1 0, .slice 7 0 1 0, .slice 8 0 1 0] : List AV), belowV 10 e = true,
        FnF Try.prog 23 true [.list [.agg [.int .i64 (-1), .int .i64 1, .int .i64 1]]] (.agg [.int .i64 0, .int .i64 0, .int .i64 1]),
        ∀ e ∈ ([.agg [.int .i64 (-1), .int .i64 1, .int .i64 1]] : List AV), idsOf e = [],
        FnF Try.prog 19 true [.list [.agg [.int .i64 (-1), .int .i64 1, .int .i64 1]], .list ((bookF B).map encQ), .list ((riskF R).map encK), .int .i64 1] (.agg [.list [], .int .i64 1]),
        ∀ e ∈ ([.agg [.int .i64 (-1), .int .i64 1, .int .i64 1]] : List AV), idsOf e = [],
        FnF Try.prog 12 true [.int .i64 1] (.agg [.int .i64 1, .int .i64 1]),
        FnF Try.prog 18 true [.list [.agg [.int .i64 (-1), .int .i64 1, .int .i64 1]], .agg [.int .i64 0, .int .i64 1, .int .i64 0, .int .i64 0], .int .i64 2, .agg [.int .i64 1, .int .i64 1]] (.agg [.list [], .int .i64 0, .int .i64 0, .int .i64 1]),
        ∀ e ∈ ([.agg [.int .i64 (-1), .int .i64 1, .int .i64 1]] : List AV), idsOf e = []]) (by kernel_rfl) ⟨(by simp [belowV, idsOf, idsL, encQ, encW, encK, encC, encF]), (by simp [belowV, idsOf, idsL, encQ, encW, encK, encC, encF]), (by simp [belowV, idsOf, idsL, encQ, encW, encK, encC, encF]), (by simp [belowV, idsOf, idsL, encQ, encW, encK, encC, encF]), (by simp [belowV, idsOf, idsL, encQ, encW, encK, encC, encF]), (by simp [belowV, idsOf, idsL, encQ, encW, encK, encC, encF]), (by simp [belowV, idsOf, idsL, encQ, encW, encK, encC, encF]), pi23_71, (by simp [idsOf, idsL, encQ, encW, encK, encC, encF]), (pi19_72 hB hBl hR hRl hbs hn hk kb1 kb2 ko1 ko2 kp1 kp2 krl k6 q1 q2 q3 q4 q5), (by simp [idsOf, idsL, encQ, encW, encK, encC, encF]), ph12_40, pi18_73, (by simp [idsOf, idsL, encQ, encW, encK, encC, encF]), trivial⟩ ?_
            refine seq_n ?_
            exact refuses_all_t0 hB hBl hR hRl hbs hn hk

end Go.Proofs.Ytkijlggnnbdeiaa
