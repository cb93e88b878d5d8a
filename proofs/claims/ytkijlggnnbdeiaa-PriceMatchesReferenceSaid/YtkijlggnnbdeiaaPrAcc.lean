/- Accounts, walked -/
import Derived.Test.YtkijlggnnbdeiaaPrAcM
import Derived.Test.YtkijlggnnbdeiaaPrBond
import Derived.Test.YtkijlggnnbdeiaaProg
set_option linter.unusedVariables false
set_option linter.unusedSimpArgs false
namespace Go.Proofs.Ytkijlggnnbdeiaa
open Go.RowKit
set_option maxRecDepth 100000
def oP_pr_valid (n : Int) (d : Int) : List Prop := [(.bool (decide (d ≥ 1)) : AV) = (.bool true : AV), (.bool (decide (d ≤ 4611686018427387904)) : AV) = (.bool true : AV), (.bool (decide (n ≥ (-4611686018427387904))) : AV) = (.bool true : AV), (.bool (decide (n ≤ 4611686018427387904)) : AV) = (.bool true : AV), FnF Try.prog 58 true [iV n] (.int .u64 (absI n)), (.int .u64 (IntKind.wrap .u64 (d)) : AV) = (.int .u64 d : AV), FnF Try.prog 34 true [.list [.int .u64 (absI n), .int .u64 d]] (.int .u64 (Int.gcd (absI n) d : Int)), ∀ e ∈ ([.int .u64 (absI n), .int .u64 d] : List AV), idsOf e = []]
theorem pr_valid {n d : Int} (hn : -9223372036854775808 ≤ n ∧ n ≤ 9223372036854775807) (hd : -9223372036854775808 ≤ d ∧ d ≤ 9223372036854775807) : FnF Try.prog 68 true [.agg [.int .i64 n, .int .i64 d]] (.bool (validI n d)) := by
  have ka : 0 ≤ absI n ∧ absI n ≤ 9223372036854775808 := absI_bd (by omega)
  by_cases q1 : d ≥ 1
  · by_cases q2 : d ≤ 4611686018427387904
    · by_cases q3 : n ≥ (-4611686018427387904)
      · by_cases q4 : n ≤ 4611686018427387904
        · by_cases q5 : (Int.gcd (absI n) d : Int) = 1
          · exact fn_e2 Try.func68 400 [.d, .d, .d, .d, .v (.bool true), .d, .d, .d, .v (.bool true), .d, .d, .d, .d, .v (.bool true), .d, .d, .d, .d, .v (.bool true), .d, .d, .d, .d, .f true (.int .u64 (absI n)), .d, .d, .v (.int .u64 d), .d, .f true (.int .u64 (Int.gcd (absI n) d : Int)), .v (.bool true), .d, .d] (ob := ((oP_pr_valid n d) ++ [(.bool ((Int.gcd (absI n) d : Int) == 1) : AV) = (.bool true : AV), (true : Bool) = (validI n d)])) ⟨(bT q1), (bT q2), (bT q3), (bT q4), rt_abs (by omega), iW (wu64 (by omega) (by omega)), od_gcd ⟨by omega, by omega⟩ ⟨by omega, by omega⟩, (by simp [idsOf, idsL]), (eT q5), (by first | (unfold validI; rw [decide_eq_true (by omega)]; done) | (unfold validI; rw [decide_eq_false (by omega)]; done)), trivial⟩
          · exact fn_e2 Try.func68 400 [.d, .d, .d, .d, .v (.bool true), .d, .d, .d, .v (.bool true), .d, .d, .d, .d, .v (.bool true), .d, .d, .d, .d, .v (.bool true), .d, .d, .d, .d, .f true (.int .u64 (absI n)), .d, .d, .v (.int .u64 d), .d, .f true (.int .u64 (Int.gcd (absI n) d : Int)), .v (.bool false), .d, .d] (ob := ((oP_pr_valid n d) ++ [(.bool ((Int.gcd (absI n) d : Int) == 1) : AV) = (.bool false : AV), (false : Bool) = (validI n d)])) ⟨(bT q1), (bT q2), (bT q3), (bT q4), rt_abs (by omega), iW (wu64 (by omega) (by omega)), od_gcd ⟨by omega, by omega⟩ ⟨by omega, by omega⟩, (by simp [idsOf, idsL]), (eF q5), (by first | (unfold validI; rw [decide_eq_true (by omega)]; done) | (unfold validI; rw [decide_eq_false (by omega)]; done)), trivial⟩
        · exact fn_e2 Try.func68 400 [.d, .d, .d, .d, .v (.bool true), .d, .d, .d, .v (.bool true), .d, .d, .d, .d, .v (.bool true), .d, .d, .d, .d, .v (.bool false), .d, .d, .d, .d, .d, .d, .d, .d, .d, .d, .d, .d, .d] (ob := [(.bool (decide (d ≥ 1)) : AV) = (.bool true : AV), (.bool (decide (d ≤ 4611686018427387904)) : AV) = (.bool true : AV), (.bool (decide (n ≥ (-4611686018427387904))) : AV) = (.bool true : AV), (.bool (decide (n ≤ 4611686018427387904)) : AV) = (.bool false : AV), (false : Bool) = (validI n d)]) ⟨(bT q1), (bT q2), (bT q3), (bF q4), (by first | (unfold validI; rw [decide_eq_true (by omega)]; done) | (unfold validI; rw [decide_eq_false (by omega)]; done)), trivial⟩
      · exact fn_e2 Try.func68 400 [.d, .d, .d, .d, .v (.bool true), .d, .d, .d, .v (.bool true), .d, .d, .d, .d, .v (.bool false), .d, .d, .d, .d, .d, .d, .d, .d, .d, .d, .d, .d, .d, .d, .d, .d, .d, .d] (ob := [(.bool (decide (d ≥ 1)) : AV) = (.bool true : AV), (.bool (decide (d ≤ 4611686018427387904)) : AV) = (.bool true : AV), (.bool (decide (n ≥ (-4611686018427387904))) : AV) = (.bool false : AV), (false : Bool) = (validI n d)]) ⟨(bT q1), (bT q2), (bF q3), (by first | (unfold validI; rw [decide_eq_true (by omega)]; done) | (unfold validI; rw [decide_eq_false (by omega)]; done)), trivial⟩
    · exact fn_e2 Try.func68 400 [.d, .d, .d, .d, .v (.bool true), .d, .d, .d, .v (.bool false), .d, .d, .d, .d, .d, .d, .d, .d, .d, .d, .d, .d, .d, .d, .d, .d, .d, .d, .d, .d, .d, .d, .d] (ob := [(.bool (decide (d ≥ 1)) : AV) = (.bool true : AV), (.bool (decide (d ≤ 4611686018427387904)) : AV) = (.bool false : AV), (false : Bool) = (validI n d)]) ⟨(bT q1), (bF q2), (by first | (unfold validI; rw [decide_eq_true (by omega)]; done) | (unfold validI; rw [decide_eq_false (by omega)]; done)), trivial⟩
  · exact fn_e2 Try.func68 400 [.d, .d, .d, .d, .v (.bool false), .d, .d, .d, .d, .d, .d, .d, .d, .d, .d, .d, .d, .d, .d, .d, .d, .d, .d, .d, .d, .d, .d, .d, .d, .d, .d, .d] (ob := [(.bool (decide (d ≥ 1)) : AV) = (.bool false : AV), (false : Bool) = (validI n d)]) ⟨(bF q1), (by first | (unfold validI; rw [decide_eq_true (by omega)]; done) | (unfold validI; rw [decide_eq_false (by omega)]; done)), trivial⟩

theorem pc62_28 {a : List Ac} {n : Nat} (ha : ∀ x ∈ a, BdC x) (hal : a.length < 1000000) (hn : n ≤ a.length) (hp : ∀ m, m < n → OkC a m) (kb : (-9223372036854775808 ≤ (a.getD n c0).fi ∧ (a.getD n c0).fi ≤ 9223372036854775807) ∧ (-9223372036854775808 ≤ (a.getD n c0).n ∧ (a.getD n c0).n ≤ 9223372036854775807) ∧ -9223372036854775808 ≤ (a.getD n c0).d ∧ (a.getD n c0).d ≤ 9223372036854775807) (q1 : ((n : Nat) : Int) < (a.length : Int)) (q2 : 0 ≤ ((a.getD n c0).fi)) (q3 : ((a.getD n c0).fi) < 8) : FnF Try.prog 62 true [.int .i64 ((a.getD n c0).fi)] (.bool true) :=
  fn_e2 Try.func62 400 [.d, .d, .v (.bool true), .d, .d, .v (.bool true), .d, .d] (ob := [(.bool (decide (0 ≤ ((a.getD n c0).fi))) : AV) = (.bool true : AV), (.bool (decide (((a.getD n c0).fi) < 8)) : AV) = (.bool true : AV), (true : Bool) = true]) ⟨(bT q2), (bT q3), rfl, trivial⟩

theorem pc62_29 {a : List Ac} {n : Nat} (ha : ∀ x ∈ a, BdC x) (hal : a.length < 1000000) (hn : n ≤ a.length) (hp : ∀ m, m < n → OkC a m) (kb : (-9223372036854775808 ≤ (a.getD n c0).fi ∧ (a.getD n c0).fi ≤ 9223372036854775807) ∧ (-9223372036854775808 ≤ (a.getD n c0).n ∧ (a.getD n c0).n ≤ 9223372036854775807) ∧ -9223372036854775808 ≤ (a.getD n c0).d ∧ (a.getD n c0).d ≤ 9223372036854775807) (q1 : ((n : Nat) : Int) < (a.length : Int)) (q2 : 0 ≤ ((a.getD n c0).fi)) (q3 : ¬ (((a.getD n c0).fi) < 8)) : FnF Try.prog 62 true [.int .i64 ((a.getD n c0).fi)] (.bool false) :=
  fn_e2 Try.func62 400 [.d, .d, .v (.bool true), .d, .d, .v (.bool false), .d, .d] (ob := [(.bool (decide (0 ≤ ((a.getD n c0).fi))) : AV) = (.bool true : AV), (.bool (decide (((a.getD n c0).fi) < 8)) : AV) = (.bool false : AV), (false : Bool) = false]) ⟨(bT q2), (bF q3), rfl, trivial⟩

theorem pc62_30 {a : List Ac} {n : Nat} (ha : ∀ x ∈ a, BdC x) (hal : a.length < 1000000) (hn : n ≤ a.length) (hp : ∀ m, m < n → OkC a m) (kb : (-9223372036854775808 ≤ (a.getD n c0).fi ∧ (a.getD n c0).fi ≤ 9223372036854775807) ∧ (-9223372036854775808 ≤ (a.getD n c0).n ∧ (a.getD n c0).n ≤ 9223372036854775807) ∧ -9223372036854775808 ≤ (a.getD n c0).d ∧ (a.getD n c0).d ≤ 9223372036854775807) (q1 : ((n : Nat) : Int) < (a.length : Int)) (q2 : ¬ (0 ≤ ((a.getD n c0).fi))) : FnF Try.prog 62 true [.int .i64 ((a.getD n c0).fi)] (.bool false) :=
  fn_e2 Try.func62 400 [.d, .d, .v (.bool false), .d, .d, .d, .d, .d] (ob := [(.bool (decide (0 ≤ ((a.getD n c0).fi))) : AV) = (.bool false : AV), (false : Bool) = false]) ⟨(bF q2), rfl, trivial⟩

def sP_pr_right (a : List Ac) : List (Nat × AV) := [(0, .list (a.map encC)), (5, .list (a.map encC)), (6, iV (a.length : Int))]
def uP_pr_right (a : List Ac) (n : Nat) : List Sup := [.d, .d, .f true (.bool true), .d, .d, .d, .v (.bool true), .d, .d, .d, .v (iV (((n : Nat) : Int) - 1)), .e (encC (a.getD (n - 1) c0)), .d, .d, .d, .d, .v (.bool false), .d, .d, .d, .d, .d, .f true (.bool (validI ((a.getD n c0).n) ((a.getD n c0).d)))]
def uP1_pr_right (a : List Ac) (n : Nat) : List Sup := [.d, .d, .f true (.bool true), .d, .d, .d, .v (.bool false), .d, .d, .d, .d, .d, .d, .d, .d, .d, .d, .d, .d, .d, .d, .d, .f true (.bool (validI ((a.getD n c0).n) ((a.getD n c0).d)))]
def oP_pr_right (a : List Ac) (n : Nat) : List Prop := [FnF Try.prog 62 true [iV ((a.getD n c0).fi)] (.bool true), (.bool (decide (((n : Nat) : Int) > 0)) : AV) = (.bool true : AV), (iV (IntKind.wrap .i64 (((n : Nat) : Int) - 1)) : AV) = (iV (((n : Nat) : Int) - 1) : AV), 0 ≤ ((n : Nat) : Int) - 1, (a.map encC)[(((n : Nat) : Int) - 1).toNat]? = some (encC (a.getD (n - 1) c0)), (.bool (decide (((a.getD (n - 1) c0).fi) ≥ ((a.getD n c0).fi))) : AV) = (.bool false : AV), FnF Try.prog 68 true [.agg [iV ((a.getD n c0).n), iV ((a.getD n c0).d)]] (.bool (validI ((a.getD n c0).n) ((a.getD n c0).d)))]
def oP1_pr_right (a : List Ac) (n : Nat) : List Prop := [FnF Try.prog 62 true [iV ((a.getD n c0).fi)] (.bool true), (.bool (decide (((n : Nat) : Int) > 0)) : AV) = (.bool false : AV), FnF Try.prog 68 true [.agg [iV ((a.getD n c0).n), iV ((a.getD n c0).d)]] (.bool (validI ((a.getD n c0).n) ((a.getD n c0).d)))]
theorem pr_right {a : List Ac} (ha : ∀ x ∈ a, BdC x) (hal : a.length < 1000000) : FnF Try.prog 67 true [.list (a.map encC)] (.bool (rightB a)) := by
  refine fn_walkF Try.func67 (by kernel_rfl) (by kernel_rfl) (by kernel_rfl) (st := (stX (.tuple []) 47 [(0, .list (a.map encC))] [])) rfl ?_
  refine Ok.sq [] ?_
  refine Ok.ev2 400 [.d] [0, 2, 5, 6, 7] 0 (st' := (stX .any 47 [(0, .list (a.map encC)), (2, .bool false), (5, .tuple []), (6, .tuple []), (7, .tuple [])] [])) (e := .normal) (ob := []) trivial ?_
  refine seq_n ?_
  refine Ok.sq [true] ?_
  refine Ok.sq [true, false] ?_
  refine Ok.ev2 400 [.d, .v (iV (a.length : Int)), .d] [0, 5, 6, 7] 0 (st' := (stX .any 47 ((sP_pr_right a) ++ [(7, iV 0)]) [])) (e := .normal) (ob := [(iV (((a.map encC).length : Nat) : Int) : AV) = (iV (a.length : Int) : AV)]) ⟨len_map, trivial⟩ ?_
  refine seq_n ?_
  refine Ok.bk [true, false, true] 0 ?_
  refine Ok.loopB [true, false, true, false] (by kernel_rfl) (fun m_ s_ => ∃ (n : Nat), (n ≤ a.length) ∧ (∀ m, m < n → OkC a m) ∧ m_ = a.length - n ∧ s_ = (stX .any 47 ((sP_pr_right a) ++ [(7, iV ((n : Nat) : Int))]) [])) (a.length - 0) (⟨0, (by omega), fun m hm => by omega, rfl, rfl⟩) ?_
  rintro m_ s_ ⟨n, hn, hp, rfl, rfl⟩
  have kb : (-9223372036854775808 ≤ (a.getD n c0).fi ∧ (a.getD n c0).fi ≤ 9223372036854775807) ∧ (-9223372036854775808 ≤ (a.getD n c0).n ∧ (a.getD n c0).n ≤ 9223372036854775807) ∧ -9223372036854775808 ≤ (a.getD n c0).d ∧ (a.getD n c0).d ≤ 9223372036854775807 := bdC_get ha n
  refine Ok.sq [true, false, true, false, false] ?_
  by_cases q1 : ((n : Nat) : Int) < (a.length : Int)
  · refine Ok.ev2 400 [.v (.bool true)] [0, 2, 5, 6, 7, 8] 0 (st' := (stX .any 47 ((sP_pr_right a) ++ [(7, iV ((n : Nat) : Int)), (8, .bool true)]) [])) (e := .normal) (ob := [(.bool (decide (((n : Nat) : Int) < (a.length : Int))) : AV) = (.bool true : AV)]) ⟨(bT q1), trivial⟩ ?_
    refine seq_n ?_
    refine Ok.sq [true, false, true, false, false, true] ?_
    refine Ok.ev2 400 [.d] [0, 2, 5, 6, 7] 0 (st' := (stX .any 47 ((sP_pr_right a) ++ [(7, iV ((n : Nat) : Int))]) [])) (e := .normal) (ob := []) trivial ?_
    refine seq_n ?_
    refine Ok.sq [true, false, true, false, false, true, true] ?_
    refine Ok.bk [true, false, true, false, false, true, true, false] 1 ?_
    refine Ok.sq [true, false, true, false, false, true, true, false, false] ?_
    refine Ok.ev2 400 [.d, .e (encC (a.getD n c0)), .d, .d, .d, .d] [0, 2, 3, 4, 5, 6, 7] 1 (st' := (stX .any 47 [(0, .list (a.map encC)), (3, iV ((n : Nat) : Int)), (4, .ptr 0 0), (5, .list (a.map encC)), (6, iV (a.length : Int)), (7, iV ((n : Nat) : Int))] [.cells [iV ((a.getD n c0).fi), iV ((a.getD n c0).n), iV ((a.getD n c0).d)]])) (e := .normal) (ob := [0 ≤ ((n : Nat) : Int), (a.map encC)[((n : Nat) : Int).toNat]? = some (encC (a.getD n c0))]) ⟨(by omega), elemN (by omega) (by omega), trivial⟩ ?_
    refine seq_n ?_
    refine Ok.sq [true, false, true, false, false, true, true, false, false, true] ?_
    by_cases q2 : 0 ≤ ((a.getD n c0).fi)
    · by_cases q3 : ((a.getD n c0).fi) < 8
      · by_cases q4 : ((n : Nat) : Int) > 0
        · by_cases q5 : ((a.getD (n - 1) c0).fi) ≥ ((a.getD n c0).fi)
          · refine Ok.ev2 400 [.d, .d, .f true (.bool true), .d, .d, .d, .v (.bool true), .d, .d, .d, .v (iV (((n : Nat) : Int) - 1)), .e (encC (a.getD (n - 1) c0)), .d, .d, .d, .d, .v (.bool true), .d, .d, .d, .d, .d, .d, .d, .d, .d, .d, .d, .d, .d, .d] [0, 2, 5, 6, 7, 42] 1 (st' := (stX .any 47 ((sP_pr_right a) ++ [(7, iV ((n : Nat) : Int)), (42, .bool true)]) [.cells [iV ((a.getD n c0).fi), iV ((a.getD n c0).n), iV ((a.getD n c0).d)]])) (e := .normal) (ob := [FnF Try.prog 62 true [iV ((a.getD n c0).fi)] (.bool true), (.bool (decide (((n : Nat) : Int) > 0)) : AV) = (.bool true : AV), (iV (IntKind.wrap .i64 (((n : Nat) : Int) - 1)) : AV) = (iV (((n : Nat) : Int) - 1) : AV), 0 ≤ ((n : Nat) : Int) - 1, (a.map encC)[(((n : Nat) : Int) - 1).toNat]? = some (encC (a.getD (n - 1) c0)), (.bool (decide (((a.getD (n - 1) c0).fi) ≥ ((a.getD n c0).fi))) : AV) = (.bool true : AV)]) ⟨(pc62_28 ha hal hn hp kb q1 q2 q3), (bT q4), iW (w64 (by omega) (by omega)), (by omega), elemN (by omega) (by omega), (bT q5), trivial⟩ ?_
            refine seq_n ?_
            refine Ok.ev2 400 [.d, .d] [2] 1 (st' := (stX .any 47 [(2, .bool false)] [.cells [iV ((a.getD n c0).fi), iV ((a.getD n c0).n), iV ((a.getD n c0).d)]])) (e := .ret) (ob := []) trivial ?_
            refine blk_r ?_
            refine seq_r ?_
            refine loopg_r ?_
            refine blk_r ?_
            refine seq_r ?_
            exact ⟨.inr rfl, finF_of (ob := [(false : Bool) = (rightB a)]) (by kernel_rfl) ⟨(by first | exact right_no (n := n) (by omega) (fun h => by unfold OkC at h; first | omega | (have := h.2.2.1; simp_all; done) | (have := h.2.1 (by omega); omega)) | exact right_end (fun m hm => hp m (by omega)) _ (by first | (rw [decide_eq_true (by omega)]; done) | (rw [decide_eq_false (by omega)]; done))), trivial⟩⟩
          · by_cases q6 : (validI ((a.getD n c0).n) ((a.getD n c0).d)) = true
            · by_cases q7 : ((a.getD n c0).n) < 0
              · refine Ok.ev2 400 ((uP_pr_right a n) ++ [.v (.bool false), .d, .d, .d, .d, .d, .v (.bool true), .d]) [0, 2, 5, 6, 7, 42] 1 (st' := (stX .any 47 ((sP_pr_right a) ++ [(7, iV ((n : Nat) : Int)), (42, .bool true)]) [.cells [iV ((a.getD n c0).fi), iV ((a.getD n c0).n), iV ((a.getD n c0).d)]])) (e := .normal) (ob := ((oP_pr_right a n) ++ [(.bool (!(validI ((a.getD n c0).n) ((a.getD n c0).d))) : AV) = (.bool false : AV), (.bool (decide (((a.getD n c0).n) < 0)) : AV) = (.bool true : AV)])) ⟨(pc62_28 ha hal hn hp kb q1 q2 q3), (bT q4), iW (w64 (by omega) (by omega)), (by omega), elemN (by omega) (by omega), (bF q5), pr_valid (n := ((a.getD n c0).n)) (d := ((a.getD n c0).d)) (by omega) (by omega), (bNotF (bBT q6)), (bT q7), trivial⟩ ?_
                refine seq_n ?_
                refine Ok.ev2 400 [.d, .d] [2] 1 (st' := (stX .any 47 [(2, .bool false)] [.cells [iV ((a.getD n c0).fi), iV ((a.getD n c0).n), iV ((a.getD n c0).d)]])) (e := .ret) (ob := []) trivial ?_
                refine blk_r ?_
                refine seq_r ?_
                refine loopg_r ?_
                refine blk_r ?_
                refine seq_r ?_
                exact ⟨.inr rfl, finF_of (ob := [(false : Bool) = (rightB a)]) (by kernel_rfl) ⟨(by first | exact right_no (n := n) (by omega) (fun h => by unfold OkC at h; first | omega | (have := h.2.2.1; simp_all; done) | (have := h.2.1 (by omega); omega)) | exact right_end (fun m hm => hp m (by omega)) _ (by first | (rw [decide_eq_true (by omega)]; done) | (rw [decide_eq_false (by omega)]; done))), trivial⟩⟩
              · refine Ok.ev2 400 ((uP_pr_right a n) ++ [.v (.bool false), .d, .d, .d, .d, .d, .v (.bool false), .d]) [0, 2, 5, 6, 7, 42] 1 (st' := (stX .any 47 ((sP_pr_right a) ++ [(7, iV ((n : Nat) : Int)), (42, .bool false)]) [.cells [iV ((a.getD n c0).fi), iV ((a.getD n c0).n), iV ((a.getD n c0).d)]])) (e := .normal) (ob := ((oP_pr_right a n) ++ [(.bool (!(validI ((a.getD n c0).n) ((a.getD n c0).d))) : AV) = (.bool false : AV), (.bool (decide (((a.getD n c0).n) < 0)) : AV) = (.bool false : AV)])) ⟨(pc62_28 ha hal hn hp kb q1 q2 q3), (bT q4), iW (w64 (by omega) (by omega)), (by omega), elemN (by omega) (by omega), (bF q5), pr_valid (n := ((a.getD n c0).n)) (d := ((a.getD n c0).d)) (by omega) (by omega), (bNotF (bBT q6)), (bF q7), trivial⟩ ?_
                refine seq_n ?_
                refine Ok.ev2 400 [.d] [0, 2, 5, 6, 7] 1 (st' := (stX .any 47 ((sP_pr_right a) ++ [(7, iV ((n : Nat) : Int))]) [.cells [iV ((a.getD n c0).fi), iV ((a.getD n c0).n), iV ((a.getD n c0).d)]])) (e := .normal) (ob := []) trivial ?_
                refine blk_n ?_
                refine seq_n ?_
                refine Ok.ev2 400 [.v (iV (((n : Nat) : Int) + 1)), .d] [0, 5, 6, 7] 1 (st' := (stX .any 47 ((sP_pr_right a) ++ [(7, iV (((n : Nat) : Int) + 1))]) [.cells [iV ((a.getD n c0).fi), iV ((a.getD n c0).n), iV ((a.getD n c0).d)]])) (e := .normal) (ob := [(iV (IntKind.wrap .i64 (((n : Nat) : Int) + 1)) : AV) = (iV (((n : Nat) : Int) + 1) : AV)]) ⟨iW (w64 (by omega) (by omega)), trivial⟩ ?_
                exact loop_g [0, 5, 6, 7] 0 (a.length - (n + 1)) (by omega) rfl (s' := (stX .any 47 ((sP_pr_right a) ++ [(7, iV (((n : Nat) : Int) + 1))]) [])) (ob := []) (by kernel_rfl) trivial (⟨(n + 1), (by omega), upto_step hp ⟨by omega, fun _ => by omega, by assumption, by omega⟩, rfl, rfl⟩)
            · refine Ok.ev2 400 ((uP_pr_right a n) ++ [.v (.bool true), .d, .d, .d, .d, .d, .d, .d]) [0, 2, 5, 6, 7, 42] 1 (st' := (stX .any 47 ((sP_pr_right a) ++ [(7, iV ((n : Nat) : Int)), (42, .bool true)]) [.cells [iV ((a.getD n c0).fi), iV ((a.getD n c0).n), iV ((a.getD n c0).d)]])) (e := .normal) (ob := ((oP_pr_right a n) ++ [(.bool (!(validI ((a.getD n c0).n) ((a.getD n c0).d))) : AV) = (.bool true : AV)])) ⟨(pc62_28 ha hal hn hp kb q1 q2 q3), (bT q4), iW (w64 (by omega) (by omega)), (by omega), elemN (by omega) (by omega), (bF q5), pr_valid (n := ((a.getD n c0).n)) (d := ((a.getD n c0).d)) (by omega) (by omega), (bNotT (bBF q6)), trivial⟩ ?_
              refine seq_n ?_
              refine Ok.ev2 400 [.d, .d] [2] 1 (st' := (stX .any 47 [(2, .bool false)] [.cells [iV ((a.getD n c0).fi), iV ((a.getD n c0).n), iV ((a.getD n c0).d)]])) (e := .ret) (ob := []) trivial ?_
              refine blk_r ?_
              refine seq_r ?_
              refine loopg_r ?_
              refine blk_r ?_
              refine seq_r ?_
              exact ⟨.inr rfl, finF_of (ob := [(false : Bool) = (rightB a)]) (by kernel_rfl) ⟨(by first | exact right_no (n := n) (by omega) (fun h => by unfold OkC at h; first | omega | (have := h.2.2.1; simp_all; done) | (have := h.2.1 (by omega); omega)) | exact right_end (fun m hm => hp m (by omega)) _ (by first | (rw [decide_eq_true (by omega)]; done) | (rw [decide_eq_false (by omega)]; done))), trivial⟩⟩
        · by_cases q5 : (validI ((a.getD n c0).n) ((a.getD n c0).d)) = true
          · by_cases q6 : ((a.getD n c0).n) < 0
            · refine Ok.ev2 400 ((uP1_pr_right a n) ++ [.v (.bool false), .d, .d, .d, .d, .d, .v (.bool true), .d]) [0, 2, 5, 6, 7, 42] 1 (st' := (stX .any 47 ((sP_pr_right a) ++ [(7, iV ((n : Nat) : Int)), (42, .bool true)]) [.cells [iV ((a.getD n c0).fi), iV ((a.getD n c0).n), iV ((a.getD n c0).d)]])) (e := .normal) (ob := ((oP1_pr_right a n) ++ [(.bool (!(validI ((a.getD n c0).n) ((a.getD n c0).d))) : AV) = (.bool false : AV), (.bool (decide (((a.getD n c0).n) < 0)) : AV) = (.bool true : AV)])) ⟨(pc62_28 ha hal hn hp kb q1 q2 q3), (bF q4), pr_valid (n := ((a.getD n c0).n)) (d := ((a.getD n c0).d)) (by omega) (by omega), (bNotF (bBT q5)), (bT q6), trivial⟩ ?_
              refine seq_n ?_
              refine Ok.ev2 400 [.d, .d] [2] 1 (st' := (stX .any 47 [(2, .bool false)] [.cells [iV ((a.getD n c0).fi), iV ((a.getD n c0).n), iV ((a.getD n c0).d)]])) (e := .ret) (ob := []) trivial ?_
              refine blk_r ?_
              refine seq_r ?_
              refine loopg_r ?_
              refine blk_r ?_
              refine seq_r ?_
              exact ⟨.inr rfl, finF_of (ob := [(false : Bool) = (rightB a)]) (by kernel_rfl) ⟨(by first | exact right_no (n := n) (by omega) (fun h => by unfold OkC at h; first | omega | (have := h.2.2.1; simp_all; done) | (have := h.2.1 (by omega); omega)) | exact right_end (fun m hm => hp m (by omega)) _ (by first | (rw [decide_eq_true (by omega)]; done) | (rw [decide_eq_false (by omega)]; done))), trivial⟩⟩
            · refine Ok.ev2 400 ((uP1_pr_right a n) ++ [.v (.bool false), .d, .d, .d, .d, .d, .v (.bool false), .d]) [0, 2, 5, 6, 7, 42] 1 (st' := (stX .any 47 ((sP_pr_right a) ++ [(7, iV ((n : Nat) : Int)), (42, .bool false)]) [.cells [iV ((a.getD n c0).fi), iV ((a.getD n c0).n), iV ((a.getD n c0).d)]])) (e := .normal) (ob := ((oP1_pr_right a n) ++ [(.bool (!(validI ((a.getD n c0).n) ((a.getD n c0).d))) : AV) = (.bool false : AV), (.bool (decide (((a.getD n c0).n) < 0)) : AV) = (.bool false : AV)])) ⟨(pc62_28 ha hal hn hp kb q1 q2 q3), (bF q4), pr_valid (n := ((a.getD n c0).n)) (d := ((a.getD n c0).d)) (by omega) (by omega), (bNotF (bBT q5)), (bF q6), trivial⟩ ?_
              refine seq_n ?_
              refine Ok.ev2 400 [.d] [0, 2, 5, 6, 7] 1 (st' := (stX .any 47 ((sP_pr_right a) ++ [(7, iV ((n : Nat) : Int))]) [.cells [iV ((a.getD n c0).fi), iV ((a.getD n c0).n), iV ((a.getD n c0).d)]])) (e := .normal) (ob := []) trivial ?_
              refine blk_n ?_
              refine seq_n ?_
              refine Ok.ev2 400 [.v (iV (((n : Nat) : Int) + 1)), .d] [0, 5, 6, 7] 1 (st' := (stX .any 47 ((sP_pr_right a) ++ [(7, iV (((n : Nat) : Int) + 1))]) [.cells [iV ((a.getD n c0).fi), iV ((a.getD n c0).n), iV ((a.getD n c0).d)]])) (e := .normal) (ob := [(iV (IntKind.wrap .i64 (((n : Nat) : Int) + 1)) : AV) = (iV (((n : Nat) : Int) + 1) : AV)]) ⟨iW (w64 (by omega) (by omega)), trivial⟩ ?_
              exact loop_g [0, 5, 6, 7] 0 (a.length - (n + 1)) (by omega) rfl (s' := (stX .any 47 ((sP_pr_right a) ++ [(7, iV (((n : Nat) : Int) + 1))]) [])) (ob := []) (by kernel_rfl) trivial (⟨(n + 1), (by omega), upto_step hp ⟨by omega, fun _ => by omega, by assumption, by omega⟩, rfl, rfl⟩)
          · refine Ok.ev2 400 ((uP1_pr_right a n) ++ [.v (.bool true), .d, .d, .d, .d, .d, .d, .d]) [0, 2, 5, 6, 7, 42] 1 (st' := (stX .any 47 ((sP_pr_right a) ++ [(7, iV ((n : Nat) : Int)), (42, .bool true)]) [.cells [iV ((a.getD n c0).fi), iV ((a.getD n c0).n), iV ((a.getD n c0).d)]])) (e := .normal) (ob := ((oP1_pr_right a n) ++ [(.bool (!(validI ((a.getD n c0).n) ((a.getD n c0).d))) : AV) = (.bool true : AV)])) ⟨(pc62_28 ha hal hn hp kb q1 q2 q3), (bF q4), pr_valid (n := ((a.getD n c0).n)) (d := ((a.getD n c0).d)) (by omega) (by omega), (bNotT (bBF q5)), trivial⟩ ?_
            refine seq_n ?_
            refine Ok.ev2 400 [.d, .d] [2] 1 (st' := (stX .any 47 [(2, .bool false)] [.cells [iV ((a.getD n c0).fi), iV ((a.getD n c0).n), iV ((a.getD n c0).d)]])) (e := .ret) (ob := []) trivial ?_
            refine blk_r ?_
            refine seq_r ?_
            refine loopg_r ?_
            refine blk_r ?_
            refine seq_r ?_
            exact ⟨.inr rfl, finF_of (ob := [(false : Bool) = (rightB a)]) (by kernel_rfl) ⟨(by first | exact right_no (n := n) (by omega) (fun h => by unfold OkC at h; first | omega | (have := h.2.2.1; simp_all; done) | (have := h.2.1 (by omega); omega)) | exact right_end (fun m hm => hp m (by omega)) _ (by first | (rw [decide_eq_true (by omega)]; done) | (rw [decide_eq_false (by omega)]; done))), trivial⟩⟩
      · refine Ok.ev2 400 [.d, .d, .f true (.bool false), .d, .d, .d, .d, .d, .d, .d, .d, .d, .d, .d, .d, .d, .d, .d, .d, .d, .d, .d, .d, .d, .d, .d, .d, .d, .d, .d, .d] [0, 2, 5, 6, 7, 42] 1 (st' := (stX .any 47 ((sP_pr_right a) ++ [(7, iV ((n : Nat) : Int)), (42, .bool true)]) [.cells [iV ((a.getD n c0).fi), iV ((a.getD n c0).n), iV ((a.getD n c0).d)]])) (e := .normal) (ob := [FnF Try.prog 62 true [iV ((a.getD n c0).fi)] (.bool false)]) ⟨(pc62_29 ha hal hn hp kb q1 q2 q3), trivial⟩ ?_
        refine seq_n ?_
        refine Ok.ev2 400 [.d, .d] [2] 1 (st' := (stX .any 47 [(2, .bool false)] [.cells [iV ((a.getD n c0).fi), iV ((a.getD n c0).n), iV ((a.getD n c0).d)]])) (e := .ret) (ob := []) trivial ?_
        refine blk_r ?_
        refine seq_r ?_
        refine loopg_r ?_
        refine blk_r ?_
        refine seq_r ?_
        exact ⟨.inr rfl, finF_of (ob := [(false : Bool) = (rightB a)]) (by kernel_rfl) ⟨(by first | exact right_no (n := n) (by omega) (fun h => by unfold OkC at h; first | omega | (have := h.2.2.1; simp_all; done) | (have := h.2.1 (by omega); omega)) | exact right_end (fun m hm => hp m (by omega)) _ (by first | (rw [decide_eq_true (by omega)]; done) | (rw [decide_eq_false (by omega)]; done))), trivial⟩⟩
    · refine Ok.ev2 400 [.d, .d, .f true (.bool false), .d, .d, .d, .d, .d, .d, .d, .d, .d, .d, .d, .d, .d, .d, .d, .d, .d, .d, .d, .d, .d, .d, .d, .d, .d, .d, .d, .d] [0, 2, 5, 6, 7, 42] 1 (st' := (stX .any 47 ((sP_pr_right a) ++ [(7, iV ((n : Nat) : Int)), (42, .bool true)]) [.cells [iV ((a.getD n c0).fi), iV ((a.getD n c0).n), iV ((a.getD n c0).d)]])) (e := .normal) (ob := [FnF Try.prog 62 true [iV ((a.getD n c0).fi)] (.bool false)]) ⟨(pc62_30 ha hal hn hp kb q1 q2), trivial⟩ ?_
      refine seq_n ?_
      refine Ok.ev2 400 [.d, .d] [2] 1 (st' := (stX .any 47 [(2, .bool false)] [.cells [iV ((a.getD n c0).fi), iV ((a.getD n c0).n), iV ((a.getD n c0).d)]])) (e := .ret) (ob := []) trivial ?_
      refine blk_r ?_
      refine seq_r ?_
      refine loopg_r ?_
      refine blk_r ?_
      refine seq_r ?_
      exact ⟨.inr rfl, finF_of (ob := [(false : Bool) = (rightB a)]) (by kernel_rfl) ⟨(by first | exact right_no (n := n) (by omega) (fun h => by unfold OkC at h; first | omega | (have := h.2.2.1; simp_all; done) | (have := h.2.1 (by omega); omega)) | exact right_end (fun m hm => hp m (by omega)) _ (by first | (rw [decide_eq_true (by omega)]; done) | (rw [decide_eq_false (by omega)]; done))), trivial⟩⟩
  · refine Ok.ev2 400 [.v (.bool false)] [0, 2, 5, 6, 7, 8] 0 (st' := (stX .any 47 ((sP_pr_right a) ++ [(7, iV ((n : Nat) : Int)), (8, .bool false)]) [])) (e := .normal) (ob := [(.bool (decide (((n : Nat) : Int) < (a.length : Int))) : AV) = (.bool false : AV)]) ⟨(bF q1), trivial⟩ ?_
    refine seq_n ?_
    refine Ok.ev2 400 [.d] [0, 2] 0 (st' := (stX .any 47 [(0, .list (a.map encC))] [])) (e := (.exit 0)) (ob := []) trivial ?_
    refine loopg_e ?_
    refine blkQ_here ?_
    refine seq_n ?_
    refine Ok.sq [true, true] ?_
    by_cases q2 : (a.length : Int) ≤ 8
    · refine Ok.ev2 400 [.d, .v (iV (a.length : Int)), .v (.bool true), .d] [2] 0 (st' := (stX .any 47 [(2, .bool true)] [])) (e := .normal) (ob := [(iV (((a.map encC).length : Nat) : Int) : AV) = (iV (a.length : Int) : AV), (.bool (decide ((a.length : Int) ≤ 8)) : AV) = (.bool true : AV)]) ⟨len_map, (bT q2), trivial⟩ ?_
      refine seq_n ?_
      refine Ok.ev2 400 [] [2] 0 (st' := (stX .any 47 [(2, .bool true)] [])) (e := .ret) (ob := []) trivial ?_
      exact ⟨.inr rfl, finF_of (ob := [(true : Bool) = (rightB a)]) (by kernel_rfl) ⟨(by first | exact right_no (n := n) (by omega) (fun h => by unfold OkC at h; first | omega | (have := h.2.2.1; simp_all; done) | (have := h.2.1 (by omega); omega)) | exact right_end (fun m hm => hp m (by omega)) _ (by first | (rw [decide_eq_true (by omega)]; done) | (rw [decide_eq_false (by omega)]; done))), trivial⟩⟩
    · refine Ok.ev2 400 [.d, .v (iV (a.length : Int)), .v (.bool false), .d] [2] 0 (st' := (stX .any 47 [(2, .bool false)] [])) (e := .normal) (ob := [(iV (((a.map encC).length : Nat) : Int) : AV) = (iV (a.length : Int) : AV), (.bool (decide ((a.length : Int) ≤ 8)) : AV) = (.bool false : AV)]) ⟨len_map, (bF q2), trivial⟩ ?_
      refine seq_n ?_
      refine Ok.ev2 400 [] [2] 0 (st' := (stX .any 47 [(2, .bool false)] [])) (e := .ret) (ob := []) trivial ?_
      exact ⟨.inr rfl, finF_of (ob := [(false : Bool) = (rightB a)]) (by kernel_rfl) ⟨(by first | exact right_no (n := n) (by omega) (fun h => by unfold OkC at h; first | omega | (have := h.2.2.1; simp_all; done) | (have := h.2.1 (by omega); omega)) | exact right_end (fun m hm => hp m (by omega)) _ (by first | (rw [decide_eq_true (by omega)]; done) | (rw [decide_eq_false (by omega)]; done))), trivial⟩⟩

theorem pr_at1 {x : Ac} {f : Int}  : FnF Try.prog 90 true [encC x, .ptrIn (.agg [.int .i64 f]) 0] (.bool (isC f x)) := by
  by_cases q1 : x.fi = f
  · exact fn_e2 Try.func90 400 [.d, .d, .d, .d, .d, .v (.bool true), .d] (ob := [(.bool (x.fi == f) : AV) = (.bool true : AV), (true : Bool) = (isC f x)]) ⟨(eT q1), (by first | (unfold isC; rw [decide_eq_true (by omega)]; done) | (unfold isC; rw [decide_eq_false (by omega)]; done)), trivial⟩
  · exact fn_e2 Try.func90 400 [.d, .d, .d, .d, .d, .v (.bool false), .d] (ob := [(.bool (x.fi == f) : AV) = (.bool false : AV), (false : Bool) = (isC f x)]) ⟨(eF q1), (by first | (unfold isC; rw [decide_eq_true (by omega)]; done) | (unfold isC; rw [decide_eq_false (by omega)]; done)), trivial⟩

def sP_pr_idxC (a : List Ac) (f : Int) : List (Nat × AV) := [(0, .list (a.map encC)), (1, .func (.func 90) [] [.ptrIn (.agg [iV f]) 0]), (6, .list (a.map encC)), (7, iV (a.length : Int))]
theorem pr_idxC {a : List Ac} {f : Int} (hL : a.length < 1000000) : FnF Try.prog 89 true [.list (a.map encC), .func (.func 90) [] [.ptrIn (.agg [.int .i64 f]) 0]] (.int .i64 (idxF (isC f) a)) := by
  refine fn_walkF Try.func89 (by kernel_rfl) (by kernel_rfl) (by kernel_rfl) (st := (stX (.tuple []) 19 [(0, .list (a.map encC)), (1, .func (.func 90) [] [.ptrIn (.agg [iV f]) 0])] [])) rfl ?_
  refine Ok.sq [] ?_
  refine Ok.ev2 400 [.d] [0, 1, 4, 7, 8] 0 (st' := (stX .any 19 [(0, .list (a.map encC)), (1, .func (.func 90) [] [.ptrIn (.agg [iV f]) 0]), (4, iV 0), (7, .tuple []), (8, .tuple [])] [])) (e := .normal) (ob := []) trivial ?_
  refine seq_n ?_
  refine Ok.sq [true] ?_
  refine Ok.sq [true, false] ?_
  refine Ok.ev2 400 [.d, .v (iV (a.length : Int)), .d] [0, 1, 6, 7, 8] 0 (st' := (stX .any 19 ((sP_pr_idxC a f) ++ [(8, iV 0)]) [])) (e := .normal) (ob := [(iV (((a.map encC).length : Nat) : Int) : AV) = (iV (a.length : Int) : AV)]) ⟨len_map, trivial⟩ ?_
  refine seq_n ?_
  refine Ok.bk [true, false, true] 0 ?_
  refine Ok.loopB [true, false, true, false] (by kernel_rfl) (fun m_ s_ => ∃ (n : Nat), (n ≤ a.length) ∧ (∀ j, j < n → ¬ isC f (a.getD j c0) = true) ∧ m_ = a.length - n ∧ s_ = (stX .any 19 ((sP_pr_idxC a f) ++ [(8, iV ((n : Nat) : Int))]) [])) (a.length - 0) (⟨0, (by omega), fun j hj => by omega, rfl, rfl⟩) ?_
  rintro m_ s_ ⟨n, hn, hno, rfl, rfl⟩
  refine Ok.sq [true, false, true, false, false] ?_
  by_cases q1 : ((n : Nat) : Int) < (a.length : Int)
  · refine Ok.ev2 400 [.v (.bool true)] [0, 1, 4, 6, 7, 8, 9] 0 (st' := (stX .any 19 ((sP_pr_idxC a f) ++ [(8, iV ((n : Nat) : Int)), (9, .bool true)]) [])) (e := .normal) (ob := [(.bool (decide (((n : Nat) : Int) < (a.length : Int))) : AV) = (.bool true : AV)]) ⟨(bT q1), trivial⟩ ?_
    refine seq_n ?_
    refine Ok.sq [true, false, true, false, false, true] ?_
    refine Ok.ev2 400 [.d] [0, 1, 4, 6, 7, 8] 0 (st' := (stX .any 19 ((sP_pr_idxC a f) ++ [(8, iV ((n : Nat) : Int))]) [])) (e := .normal) (ob := []) trivial ?_
    refine seq_n ?_
    refine Ok.sq [true, false, true, false, false, true, true] ?_
    refine Ok.bk [true, false, true, false, false, true, true, false] 1 ?_
    refine Ok.sq [true, false, true, false, false, true, true, false, false] ?_
    refine Ok.ev2 400 [.d, .d] [0, 1, 4, 5, 6, 7, 8] 0 (st' := (stX .any 19 [(0, .list (a.map encC)), (1, .func (.func 90) [] [.ptrIn (.agg [iV f]) 0]), (5, iV ((n : Nat) : Int)), (6, .list (a.map encC)), (7, iV (a.length : Int)), (8, iV ((n : Nat) : Int))] [])) (e := .normal) (ob := []) trivial ?_
    refine seq_n ?_
    refine Ok.sq [true, false, true, false, false, true, true, false, false, true] ?_
    refine Ok.ev2 400 [.d, .d, .d, .e (encC (a.getD n c0)), .d, .f true (.bool (isC f (a.getD n c0)))] [0, 1, 4, 5, 6, 7, 8, 16] 0 (st' := (stX .any 19 [(0, .list (a.map encC)), (1, .func (.func 90) [] [.ptrIn (.agg [iV f]) 0]), (5, iV ((n : Nat) : Int)), (6, .list (a.map encC)), (7, iV (a.length : Int)), (8, iV ((n : Nat) : Int)), (16, .bool (isC f (a.getD n c0)))] [])) (e := .normal) (ob := [0 ≤ ((n : Nat) : Int), (a.map encC)[((n : Nat) : Int).toNat]? = some (encC (a.getD n c0)), FnF Try.prog 90 true [.agg [iV ((a.getD n c0).fi), iV ((a.getD n c0).n), iV ((a.getD n c0).d)], .ptrIn (.agg [iV f]) 0] (.bool (isC f (a.getD n c0)))]) ⟨(by omega), elemN (by omega) (by omega), pr_at1, trivial⟩ ?_
    refine seq_n ?_
    by_cases q2 : (isC f (a.getD n c0)) = true
    · refine Ok.ev2 400 [.v (.bool true), .d, .d] [4] 0 (st' := (stX .any 19 [(4, iV ((n : Nat) : Int))] [])) (e := .ret) (ob := [isC f (a.getD n c0) = true]) ⟨(unB (bBT q2)), trivial⟩ ?_
      refine blk_r ?_
      refine seq_r ?_
      refine loopg_r ?_
      refine blk_r ?_
      refine seq_r ?_
      exact ⟨.inr rfl, finF_of (ob := [(((n : Nat) : Int) : Int) = idxF (isC f) a]) (by kernel_rfl) ⟨(by first | exact idx_at (d := c0) (by omega) hno (by assumption) | exact idx_no (d := c0) (fun j hj => hno j (by omega))), trivial⟩⟩
    · refine Ok.ev2 400 [.v (.bool false)] [0, 1, 4, 6, 7, 8] 0 (st' := (stX .any 19 ((sP_pr_idxC a f) ++ [(8, iV ((n : Nat) : Int))]) [])) (e := .normal) (ob := [isC f (a.getD n c0) = false]) ⟨(unB (bBF q2)), trivial⟩ ?_
      refine blk_n ?_
      refine seq_n ?_
      refine Ok.ev2 400 [.v (iV (((n : Nat) : Int) + 1)), .d] [0, 1, 6, 7, 8] 0 (st' := (stX .any 19 ((sP_pr_idxC a f) ++ [(8, iV (((n : Nat) : Int) + 1))]) [])) (e := .normal) (ob := [(iV (IntKind.wrap .i64 (((n : Nat) : Int) + 1)) : AV) = (iV (((n : Nat) : Int) + 1) : AV)]) ⟨iW (w64 (by omega) (by omega)), trivial⟩ ?_
      exact loop_g [0, 1, 6, 7, 8] 0 (a.length - (n + 1)) (by omega) rfl (s' := (stX .any 19 ((sP_pr_idxC a f) ++ [(8, iV (((n : Nat) : Int) + 1))]) [])) (ob := []) (by kernel_rfl) trivial (⟨(n + 1), (by omega), upto_step hno (by assumption), rfl, rfl⟩)
  · refine Ok.ev2 400 [.v (.bool false)] [0, 1, 4, 6, 7, 8, 9] 0 (st' := (stX .any 19 ((sP_pr_idxC a f) ++ [(8, iV ((n : Nat) : Int)), (9, .bool false)]) [])) (e := .normal) (ob := [(.bool (decide (((n : Nat) : Int) < (a.length : Int))) : AV) = (.bool false : AV)]) ⟨(bF q1), trivial⟩ ?_
    refine seq_n ?_
    refine Ok.ev2 400 [.d] [4] 0 (st' := (stX .any 19 [] [])) (e := (.exit 0)) (ob := []) trivial ?_
    refine loopg_e ?_
    refine blkQ_here ?_
    refine seq_n ?_
    refine Ok.ev2 400 [.d] [4] 0 (st' := (stX .any 19 [(4, iV (-1))] [])) (e := .ret) (ob := []) trivial ?_
    exact ⟨.inr rfl, finF_of (ob := [((-1) : Int) = idxF (isC f) a]) (by kernel_rfl) ⟨(by first | exact idx_at (d := c0) (by omega) hno (by assumption) | exact idx_no (d := c0) (fun j hj => hno j (by omega))), trivial⟩⟩

theorem pr_at {a : List Ac} {f : Int} (hL : a.length < 1000000) : FnF Try.prog 69 true [.list (a.map encC), .int .i64 f] (.int .i64 (idxF (isC f) a)) := by
  exact fn_e2 Try.func69 400 [.d, .d, .d, .d, .f true (iV (idxF (isC f) a)), .d] (ob := [FnF Try.prog 89 true [.list (a.map encC), .func (.func 90) [] [.ptrIn (.agg [iV f]) 0]] (iV (idxF (isC f) a)), (idxF (isC f) a : Int) = idxF (isC f) a]) ⟨pr_idxC (a := a) (f := f) (by omega), rfl, trivial⟩

def sP_pr_sum  : List (Nat × AV) := [(2, .ptr 0 0), (3, iV 0), (4, .ptr 1 0)]
theorem pr_sum {M : List Fq} (hM : FrcL M) (hL : M.length < 1000000) : FnF Try.prog 76 true [.list (M.map encF)] (.tuple [.agg [.int .i64 ((sumS M 0 1).1), .int .i64 ((sumS M 0 1).2.1)], .int .i64 ((sumS M 0 1).2.2)]) := by
  refine fn_walkF Try.func76 (by kernel_rfl) (by kernel_rfl) (by kernel_rfl) (st := (stX (.tuple []) 29 [(0, .list (M.map encF))] [])) rfl ?_
  refine Ok.sq [] ?_
  refine Ok.ev2 400 [.d, .d] [0, 2, 3, 4, 5] 1 (st' := (stX .any 29 [(0, .list (M.map encF)), (2, .ptr 0 0), (3, iV 0), (4, .tuple []), (5, .tuple [])] [.cells [iV 0, iV 0]])) (e := .normal) (ob := []) trivial ?_
  refine seq_n ?_
  refine Ok.sq [true] ?_
  refine Ok.ev2 400 [.f true (.tuple [.agg [iV 0, iV 1], iV 0]), .d, .d, .d, .d, .d, .d] [0, 2, 3, 4, 5, 12, 13, 14] 2 (st' := (stX .any 29 [(0, .list (M.map encF)), (2, .ptr 0 0), (3, iV 0), (4, .ptr 1 0), (5, iV 0)] [.cells [iV 0, iV 0], .cells [iV 0, iV 1]])) (e := .normal) (ob := [FnF Try.prog 36 true [] (.tuple [.agg [iV 0, iV 1], iV 0])]) ⟨od36_1, trivial⟩ ?_
  refine seq_n ?_
  refine Ok.sq [true, true] ?_
  refine Ok.sq [true, true, false] ?_
  refine Ok.ev2 400 [.d, .v (iV (M.length : Int)), .d] [2, 3, 4, 5, 12, 13, 14] 2 (st' := (stX .any 29 (sP_pr_sum ++ [(5, iV 0), (12, .list (M.map encF)), (13, iV (M.length : Int)), (14, iV 0)]) [.cells [iV 0, iV 0], .cells [iV 0, iV 1]])) (e := .normal) (ob := [(iV (((M.map encF).length : Nat) : Int) : AV) = (iV (M.length : Int) : AV)]) ⟨len_map, trivial⟩ ?_
  refine seq_n ?_
  refine Ok.bk [true, true, false, true] 0 ?_
  refine Ok.loopB [true, true, false, true, false] (by kernel_rfl) (fun m_ s_ => ∃ (n : Nat) (s : Int) (d : Int) (e0 : Int), (n ≤ M.length) ∧ (e0 = 0) ∧ (Frc s d) ∧ (sumS (M.drop n) s d = sumS M 0 1) ∧ m_ = M.length - n ∧ s_ = (stX .any 29 (sP_pr_sum ++ [(5, iV e0), (12, .list (M.map encF)), (13, iV (M.length : Int)), (14, iV ((n : Nat) : Int))]) [.cells [iV 0, iV 0], .cells [iV s, iV d]])) (M.length - 0) (⟨0, 0, 1, 0, (by omega), rfl, (by unfold Frc; omega), rfl, rfl, rfl⟩) ?_
  rintro m_ s_ ⟨n, s, d, e0, hn, he0, hf, hb, rfl, rfl⟩
  refine Ok.sq [true, true, false, true, false, false] ?_
  by_cases q1 : ((n : Nat) : Int) < (M.length : Int)
  · refine Ok.ev2 400 [.v (.bool true)] [2, 3, 4, 5, 12, 13, 14, 15] 2 (st' := (stX .any 29 (sP_pr_sum ++ [(5, iV e0), (12, .list (M.map encF)), (13, iV (M.length : Int)), (14, iV ((n : Nat) : Int)), (15, .bool true)]) [.cells [iV 0, iV 0], .cells [iV s, iV d]])) (e := .normal) (ob := [(.bool (decide (((n : Nat) : Int) < (M.length : Int))) : AV) = (.bool true : AV)]) ⟨(bT q1), trivial⟩ ?_
    refine seq_n ?_
    refine Ok.sq [true, true, false, true, false, false, true] ?_
    refine Ok.ev2 400 [.d] [2, 3, 4, 5, 12, 13, 14] 2 (st' := (stX .any 29 (sP_pr_sum ++ [(5, iV e0), (12, .list (M.map encF)), (13, iV (M.length : Int)), (14, iV ((n : Nat) : Int))]) [.cells [iV 0, iV 0], .cells [iV s, iV d]])) (e := .normal) (ob := []) trivial ?_
    refine seq_n ?_
    refine Ok.sq [true, true, false, true, false, false, true, true] ?_
    refine Ok.bk [true, true, false, true, false, false, true, true, false] 1 ?_
    refine Ok.sq [true, true, false, true, false, false, true, true, false, false] ?_
    refine Ok.ev2 400 [.e (encF (M.getD n f0)), .d, .d, .d] [2, 3, 4, 5, 7, 12, 13, 14] 3 (st' := (stX .any 29 (sP_pr_sum ++ [(5, iV e0), (7, .ptr 2 0), (12, .list (M.map encF)), (13, iV (M.length : Int)), (14, iV ((n : Nat) : Int))]) [.cells [iV 0, iV 0], .cells [iV s, iV d], .cells [iV ((M.getD n f0).n), iV ((M.getD n f0).d)]])) (e := .normal) (ob := [0 ≤ ((n : Nat) : Int), (M.map encF)[((n : Nat) : Int).toNat]? = some (encF (M.getD n f0))]) ⟨(by omega), elemN (by omega) (by omega), trivial⟩ ?_
    refine seq_n ?_
    refine Ok.sq [true, true, false, true, false, false, true, true, false, false, true] ?_
    refine Ok.ev2 400 [.d, .d, .f true (.tuple [.agg [iV (addN s d ((M.getD n f0).n) ((M.getD n f0).d)), iV (addD s d ((M.getD n f0).n) ((M.getD n f0).d))], iV (addE s d ((M.getD n f0).n) ((M.getD n f0).d))]), .d, .d, .d, .d, .d] [2, 3, 4, 5, 12, 13, 14] 3 (st' := (stX .any 29 (sP_pr_sum ++ [(5, iV (addE s d ((M.getD n f0).n) ((M.getD n f0).d))), (12, .list (M.map encF)), (13, iV (M.length : Int)), (14, iV ((n : Nat) : Int))]) [.cells [iV 0, iV 0], .cells [iV (addN s d ((M.getD n f0).n) ((M.getD n f0).d)), iV (addD s d ((M.getD n f0).n) ((M.getD n f0).d))], .cells [iV ((M.getD n f0).n), iV ((M.getD n f0).d)]])) (e := .normal) (ob := [FnF Try.prog 16 true [.agg [iV s, iV d], .agg [iV ((M.getD n f0).n), iV ((M.getD n f0).d)]] (.tuple [.agg [iV (addN s d ((M.getD n f0).n) ((M.getD n f0).d)), iV (addD s d ((M.getD n f0).n) ((M.getD n f0).d))], iV (addE s d ((M.getD n f0).n) ((M.getD n f0).d))])]) ⟨rt_add (a := s) (b := d) (c := ((M.getD n f0).n)) (d := ((M.getD n f0).d)) hf (frcL_get hM (by omega)), trivial⟩ ?_
    refine seq_n ?_
    refine Ok.sq [true, true, false, true, false, false, true, true, false, false, true, true] ?_
    by_cases q2 : (addE s d ((M.getD n f0).n) ((M.getD n f0).d)) = 0
    · refine Ok.ev2 400 [.d, .v (.bool false)] [2, 3, 4, 5, 12, 13, 14, 25] 3 (st' := (stX .any 29 (sP_pr_sum ++ [(5, iV (addE s d ((M.getD n f0).n) ((M.getD n f0).d))), (12, .list (M.map encF)), (13, iV (M.length : Int)), (14, iV ((n : Nat) : Int)), (25, .bool false)]) [.cells [iV 0, iV 0], .cells [iV (addN s d ((M.getD n f0).n) ((M.getD n f0).d)), iV (addD s d ((M.getD n f0).n) ((M.getD n f0).d))], .cells [iV ((M.getD n f0).n), iV ((M.getD n f0).d)]])) (e := .normal) (ob := [(.bool ((addE s d ((M.getD n f0).n) ((M.getD n f0).d)) != 0) : AV) = (.bool false : AV)]) ⟨(nF q2), trivial⟩ ?_
      refine seq_n ?_
      refine Ok.ev2 400 [.d] [2, 3, 4, 5, 12, 13, 14] 3 (st' := (stX .any 29 (sP_pr_sum ++ [(5, iV (addE s d ((M.getD n f0).n) ((M.getD n f0).d))), (12, .list (M.map encF)), (13, iV (M.length : Int)), (14, iV ((n : Nat) : Int))]) [.cells [iV 0, iV 0], .cells [iV (addN s d ((M.getD n f0).n) ((M.getD n f0).d)), iV (addD s d ((M.getD n f0).n) ((M.getD n f0).d))], .cells [iV ((M.getD n f0).n), iV ((M.getD n f0).d)]])) (e := .normal) (ob := []) trivial ?_
      refine blk_n ?_
      refine seq_n ?_
      refine Ok.ev2 400 [.v (iV (((n : Nat) : Int) + 1)), .d] [2, 3, 4, 5, 12, 13, 14] 3 (st' := (stX .any 29 (sP_pr_sum ++ [(5, iV (addE s d ((M.getD n f0).n) ((M.getD n f0).d))), (12, .list (M.map encF)), (13, iV (M.length : Int)), (14, iV (((n : Nat) : Int) + 1))]) [.cells [iV 0, iV 0], .cells [iV (addN s d ((M.getD n f0).n) ((M.getD n f0).d)), iV (addD s d ((M.getD n f0).n) ((M.getD n f0).d))], .cells [iV ((M.getD n f0).n), iV ((M.getD n f0).d)]])) (e := .normal) (ob := [(iV (IntKind.wrap .i64 (((n : Nat) : Int) + 1)) : AV) = (iV (((n : Nat) : Int) + 1) : AV)]) ⟨iW (w64 (by omega) (by omega)), trivial⟩ ?_
      exact loop_g [2, 3, 4, 5, 12, 13, 14] 2 (M.length - (n + 1)) (by omega) rfl (s' := (stX .any 29 (sP_pr_sum ++ [(5, iV (addE s d ((M.getD n f0).n) ((M.getD n f0).d))), (12, .list (M.map encF)), (13, iV (M.length : Int)), (14, iV (((n : Nat) : Int) + 1))]) [.cells [iV 0, iV 0], .cells [iV (addN s d ((M.getD n f0).n) ((M.getD n f0).d)), iV (addD s d ((M.getD n f0).n) ((M.getD n f0).d))]])) (ob := []) (by kernel_rfl) trivial (⟨(n + 1), (addN s d ((M.getD n f0).n) ((M.getD n f0).d)), (addD s d ((M.getD n f0).n) ((M.getD n f0).d)), (addE s d ((M.getD n f0).n) ((M.getD n f0).d)), (by omega), (by assumption), frc_add hf (frcL_get hM (by omega)) (by assumption), sum_next (by omega) (by assumption) hb, rfl, rfl⟩)
    · refine Ok.ev2 400 [.d, .v (.bool true)] [2, 3, 4, 5, 12, 13, 14, 25] 3 (st' := (stX .any 29 (sP_pr_sum ++ [(5, iV (addE s d ((M.getD n f0).n) ((M.getD n f0).d))), (12, .list (M.map encF)), (13, iV (M.length : Int)), (14, iV ((n : Nat) : Int)), (25, .bool true)]) [.cells [iV 0, iV 0], .cells [iV (addN s d ((M.getD n f0).n) ((M.getD n f0).d)), iV (addD s d ((M.getD n f0).n) ((M.getD n f0).d))], .cells [iV ((M.getD n f0).n), iV ((M.getD n f0).d)]])) (e := .normal) (ob := [(.bool ((addE s d ((M.getD n f0).n) ((M.getD n f0).d)) != 0) : AV) = (.bool true : AV)]) ⟨(nT q2), trivial⟩ ?_
      refine seq_n ?_
      refine Ok.ev2 400 [.d] [2, 3, 4, 5] 3 (st' := (stX .any 29 (sP_pr_sum ++ [(5, iV (addE s d ((M.getD n f0).n) ((M.getD n f0).d)))]) [.cells [iV 0, iV 0], .cells [iV (addN s d ((M.getD n f0).n) ((M.getD n f0).d)), iV (addD s d ((M.getD n f0).n) ((M.getD n f0).d))], .cells [iV ((M.getD n f0).n), iV ((M.getD n f0).d)]])) (e := (.exit 0)) (ob := []) trivial ?_
      refine blkQ_on rfl ?_
      refine seq_e ?_
      refine loopg_e ?_
      refine blkQ_here ?_
      refine seq_n ?_
      refine Ok.ev2 400 [.d, .d, .d, .d] [2, 3] 3 (st' := (stX .any 29 [(2, .ptr 0 0), (3, iV (addE s d ((M.getD n f0).n) ((M.getD n f0).d)))] [.cells [iV (addN s d ((M.getD n f0).n) ((M.getD n f0).d)), iV (addD s d ((M.getD n f0).n) ((M.getD n f0).d))], .cells [iV (addN s d ((M.getD n f0).n) ((M.getD n f0).d)), iV (addD s d ((M.getD n f0).n) ((M.getD n f0).d))], .cells [iV ((M.getD n f0).n), iV ((M.getD n f0).d)]])) (e := .ret) (ob := []) trivial ?_
      refine ⟨.inr rfl, finF_of (ob := [(addN s d ((M.getD n f0).n) ((M.getD n f0).d) : Int) = (sumS M 0 1).1, (addD s d ((M.getD n f0).n) ((M.getD n f0).d) : Int) = (sumS M 0 1).2.1, (addE s d ((M.getD n f0).n) ((M.getD n f0).d) : Int) = (sumS M 0 1).2.2]) (by kernel_rfl) ⟨?_, ?_, ?_, trivial⟩⟩ <;> (first | (rw [sum_done (by omega) hb]; done) | (rw [sum_done (by omega) hb]; exact he0) | (rw [sum_stop (by omega) (by assumption) hb]; done))
  · refine Ok.ev2 400 [.v (.bool false)] [2, 3, 4, 5, 12, 13, 14, 15] 2 (st' := (stX .any 29 (sP_pr_sum ++ [(5, iV e0), (12, .list (M.map encF)), (13, iV (M.length : Int)), (14, iV ((n : Nat) : Int)), (15, .bool false)]) [.cells [iV 0, iV 0], .cells [iV s, iV d]])) (e := .normal) (ob := [(.bool (decide (((n : Nat) : Int) < (M.length : Int))) : AV) = (.bool false : AV)]) ⟨(bF q1), trivial⟩ ?_
    refine seq_n ?_
    refine Ok.ev2 400 [.d] [2, 3, 4, 5] 2 (st' := (stX .any 29 (sP_pr_sum ++ [(5, iV e0)]) [.cells [iV 0, iV 0], .cells [iV s, iV d]])) (e := (.exit 0)) (ob := []) trivial ?_
    refine loopg_e ?_
    refine blkQ_here ?_
    refine seq_n ?_
    refine Ok.ev2 400 [.d, .d, .d, .d] [2, 3] 2 (st' := (stX .any 29 [(2, .ptr 0 0), (3, iV e0)] [.cells [iV s, iV d], .cells [iV s, iV d]])) (e := .ret) (ob := []) trivial ?_
    refine ⟨.inr rfl, finF_of (ob := [(s : Int) = (sumS M 0 1).1, (d : Int) = (sumS M 0 1).2.1, (e0 : Int) = (sumS M 0 1).2.2]) (by kernel_rfl) ⟨?_, ?_, ?_, trivial⟩⟩ <;> (first | (rw [sum_done (by omega) hb]; done) | (rw [sum_done (by omega) hb]; exact he0) | (rw [sum_stop (by omega) (by assumption) hb]; done))

end Go.Proofs.Ytkijlggnnbdeiaa
