/- parolelaw37.OddsMatchesReference, walked -/
import Derived.Test.YtlhmionefjopiaaOdRef2
import Derived.Test.YtlhmionefjopiaaOdEx
import Derived.Test.YtlhmionefjopiaaProg
set_option linter.unusedVariables false
set_option linter.unusedSimpArgs false
namespace Go.Proofs.Ytlhmionefjopiaa
open Go.RowKit
set_option maxRecDepth 100000
set_option maxHeartbeats 1000000 in
theorem ot13_37 {od : List An} {L0 L1 : List Rq} {n0 n1 : Int} (hL0 : ∀ x ∈ L0, BdW x) (hL1 : ∀ x ∈ L1, BdW x) (h0 : -9223372036854775808 ≤ n0 ∧ n0 ≤ 9223372036854775807) (h1 : -9223372036854775808 ≤ n1 ∧ n1 ≤ 9223372036854775807) (hod : od.length ≤ maxLen) (hn0 : L0.length ≤ maxLen) (hn1 : L1.length ≤ maxLen) (q1 : ¬ ((od.length : Int) > 40)) (q2 : ¬ ((L0.length : Int) > 40)) (q3 : ¬ ((L1.length : Int) > 40)) : FnF Try.prog 13 true [.agg [.list ((joinL (mergeF (madeF L0) (madeF L1))).map encQ), .int .i64 (joinE (mergeF (madeF L0) (madeF L1)))], .agg [.list ((joinL (mergeF (madeF L0) (madeF L1))).map encQ), .int .i64 (joinE (mergeF (madeF L0) (madeF L1)))]] (.bool true) :=
  fn_evF (by kernel_rfl) Try.func13 (by kernel_rfl) 400
      [.d, .d, .d, .d, .d, .d, .d, .v (.bool true), .d, .d, .d, .d, .d, .f true (.bool (decide ((joinL (mergeF (madeF L0) (madeF L1))) = (joinL (mergeF (madeF L0) (madeF L1)))))), .d, .v (.bool true)]
      (by kernel_rfl) (ob := [(.bool ((joinE (mergeF (madeF L0) (madeF L1))) == (joinE (mergeF (madeF L0) (madeF L1)))) : AV) = (.bool true : AV),
        FnF Try.prog 22 true [.list ((joinL (mergeF (madeF L0) (madeF L1))).map encQ), .list ((joinL (mergeF (madeF L0) (madeF L1))).map encQ)] (.bool (decide ((joinL (mergeF (madeF L0) (madeF L1))) = (joinL (mergeF (madeF L0) (madeF L1)))))),
        (.bool (decide ((joinL (mergeF (madeF L0) (madeF L1))) = (joinL (mergeF (madeF L0) (madeF L1))))) : AV) = (.bool true : AV),
        (true : Bool) = true]) (by kernel_rfl)
      ⟨(eT rfl), od_same (a := joinL (mergeF (madeF L0) (madeF L1))) (b := joinL (mergeF (madeF L0) (madeF L1))) (by have := RightP.len (joinL_right (mergeF (madeF L0) (madeF L1))); omega), (bT rfl), rfl, trivial⟩

set_option maxHeartbeats 1000000 in
theorem ot18_38 {od : List An} {L0 L1 : List Rq} {n0 n1 : Int} (hL0 : ∀ x ∈ L0, BdW x) (hL1 : ∀ x ∈ L1, BdW x) (h0 : -9223372036854775808 ≤ n0 ∧ n0 ≤ 9223372036854775807) (h1 : -9223372036854775808 ≤ n1 ∧ n1 ≤ 9223372036854775807) (hod : od.length ≤ maxLen) (hn0 : L0.length ≤ maxLen) (hn1 : L1.length ≤ maxLen) (q1 : ¬ ((od.length : Int) > 40)) (q2 : ¬ ((L0.length : Int) > 40)) (q3 : ¬ ((L1.length : Int) > 40)) : FnF Try.prog 18 true [.list ((madeF L0).map encQ), .int .i64 n0, .int .i64 n1] (.agg [.int .i64 (losN (cntQ (madeF L0) n0) n1), .int .i64 (losD (cntQ (madeF L0) n0) n1), .int .i64 (losE n1)]) :=
  fn_evF (by kernel_rfl) Try.func18 (by kernel_rfl) 400
      [.d, .d, .d, .d, .f true (.tuple [.agg [.int .i64 (losN (cntQ (madeF L0) n0) n1), .int .i64 (losD (cntQ (madeF L0) n0) n1)], .int .i64 (losE n1)]), .d, .d, .d, .d, .d, .d, .d, .d, .d, .d]
      (by kernel_rfl) (ob := [FnF Try.prog 30 true [.list ((madeF L0).map encQ), .int .i64 n0, .int .i64 n1] (.tuple [.agg [.int .i64 (losN (cntQ (madeF L0) n0) n1), .int .i64 (losD (cntQ (madeF L0) n0) n1)], .int .i64 (losE n1)]),
        (losN (cntQ (madeF L0) n0) n1 : Int) = losN (cntQ (madeF L0) n0) n1,
        (losD (cntQ (madeF L0) n0) n1 : Int) = losD (cntQ (madeF L0) n0) n1,
        (losE n1 : Int) = losE n1]) (by kernel_rfl)
      ⟨od_loss (l := madeF L0) (k := n0) (c := n1) (made_right hL0) (by omega) (by omega), rfl, rfl, rfl, trivial⟩

set_option maxHeartbeats 1000000 in
theorem ot13_39 {od : List An} {L0 L1 : List Rq} {n0 n1 : Int} {i : Nat} (hL0 : ∀ x ∈ L0, BdW x) (hL1 : ∀ x ∈ L1, BdW x) (h0 : -9223372036854775808 ≤ n0 ∧ n0 ≤ 9223372036854775807) (h1 : -9223372036854775808 ≤ n1 ∧ n1 ≤ 9223372036854775807) (hod : od.length ≤ maxLen) (hn0 : L0.length ≤ maxLen) (hn1 : L1.length ≤ maxLen) (q1 : ¬ ((od.length : Int) > 40)) (q2 : ¬ ((L0.length : Int) > 40)) (q3 : ¬ ((L1.length : Int) > 40)) (hi : i ≤ 16) (q4 : ((i : Nat) : Int) < 16) : FnF Try.prog 13 true [.agg [.list ((lrnL (madeF L0) ((i : Nat) : Int) true).map encQ), .int .i64 (lrnE (madeF L0) ((i : Nat) : Int) true)], .agg [.list ((lrnL (madeF L0) ((i : Nat) : Int) true).map encQ), .int .i64 (lrnE (madeF L0) ((i : Nat) : Int) true)]] (.bool true) :=
  fn_evF (by kernel_rfl) Try.func13 (by kernel_rfl) 400
      [.d, .d, .d, .d, .d, .d, .d, .v (.bool true), .d, .d, .d, .d, .d, .f true (.bool (decide ((lrnL (madeF L0) ((i : Nat) : Int) true) = (lrnL (madeF L0) ((i : Nat) : Int) true)))), .d, .v (.bool true)]
      (by kernel_rfl) (ob := [(.bool ((lrnE (madeF L0) ((i : Nat) : Int) true) == (lrnE (madeF L0) ((i : Nat) : Int) true)) : AV) = (.bool true : AV),
        FnF Try.prog 22 true [.list ((lrnL (madeF L0) ((i : Nat) : Int) true).map encQ), .list ((lrnL (madeF L0) ((i : Nat) : Int) true).map encQ)] (.bool (decide ((lrnL (madeF L0) ((i : Nat) : Int) true) = (lrnL (madeF L0) ((i : Nat) : Int) true)))),
        (.bool (decide ((lrnL (madeF L0) ((i : Nat) : Int) true) = (lrnL (madeF L0) ((i : Nat) : Int) true))) : AV) = (.bool true : AV),
        (true : Bool) = true]) (by kernel_rfl)
      ⟨(eT rfl), od_same (a := lrnL (madeF L0) ((i : Nat) : Int) true) (b := lrnL (madeF L0) ((i : Nat) : Int) true) (by have := RightP.len (lrnL_right (madeF L0) ((i : Nat) : Int) true); omega), (bT rfl), rfl, trivial⟩

set_option maxHeartbeats 1000000 in
theorem ot13_40 {od : List An} {L0 L1 : List Rq} {n0 n1 : Int} {i : Nat} (hL0 : ∀ x ∈ L0, BdW x) (hL1 : ∀ x ∈ L1, BdW x) (h0 : -9223372036854775808 ≤ n0 ∧ n0 ≤ 9223372036854775807) (h1 : -9223372036854775808 ≤ n1 ∧ n1 ≤ 9223372036854775807) (hod : od.length ≤ maxLen) (hn0 : L0.length ≤ maxLen) (hn1 : L1.length ≤ maxLen) (q1 : ¬ ((od.length : Int) > 40)) (q2 : ¬ ((L0.length : Int) > 40)) (q3 : ¬ ((L1.length : Int) > 40)) (hi : i ≤ 16) (q4 : ((i : Nat) : Int) < 16) : FnF Try.prog 13 true [.agg [.list ((lrnL (madeF L0) ((i : Nat) : Int) false).map encQ), .int .i64 (lrnE (madeF L0) ((i : Nat) : Int) false)], .agg [.list ((lrnL (madeF L0) ((i : Nat) : Int) false).map encQ), .int .i64 (lrnE (madeF L0) ((i : Nat) : Int) false)]] (.bool true) :=
  fn_evF (by kernel_rfl) Try.func13 (by kernel_rfl) 400
      [.d, .d, .d, .d, .d, .d, .d, .v (.bool true), .d, .d, .d, .d, .d, .f true (.bool (decide ((lrnL (madeF L0) ((i : Nat) : Int) false) = (lrnL (madeF L0) ((i : Nat) : Int) false)))), .d, .v (.bool true)]
      (by kernel_rfl) (ob := [(.bool ((lrnE (madeF L0) ((i : Nat) : Int) false) == (lrnE (madeF L0) ((i : Nat) : Int) false)) : AV) = (.bool true : AV),
        FnF Try.prog 22 true [.list ((lrnL (madeF L0) ((i : Nat) : Int) false).map encQ), .list ((lrnL (madeF L0) ((i : Nat) : Int) false).map encQ)] (.bool (decide ((lrnL (madeF L0) ((i : Nat) : Int) false) = (lrnL (madeF L0) ((i : Nat) : Int) false)))),
        (.bool (decide ((lrnL (madeF L0) ((i : Nat) : Int) false) = (lrnL (madeF L0) ((i : Nat) : Int) false))) : AV) = (.bool true : AV),
        (true : Bool) = true]) (by kernel_rfl)
      ⟨(eT rfl), od_same (a := lrnL (madeF L0) ((i : Nat) : Int) false) (b := lrnL (madeF L0) ((i : Nat) : Int) false) (by have := RightP.len (lrnL_right (madeF L0) ((i : Nat) : Int) false); omega), (bT rfl), rfl, trivial⟩

set_option maxHeartbeats 1000000 in
theorem ot18_41 {od : List An} {L0 L1 : List Rq} {n0 n1 : Int} {i : Nat} (hL0 : ∀ x ∈ L0, BdW x) (hL1 : ∀ x ∈ L1, BdW x) (h0 : -9223372036854775808 ≤ n0 ∧ n0 ≤ 9223372036854775807) (h1 : -9223372036854775808 ≤ n1 ∧ n1 ≤ 9223372036854775807) (hod : od.length ≤ maxLen) (hn0 : L0.length ≤ maxLen) (hn1 : L1.length ≤ maxLen) (q1 : ¬ ((od.length : Int) > 40)) (q2 : ¬ ((L0.length : Int) > 40)) (q3 : ¬ ((L1.length : Int) > 40)) (hi : i ≤ 16) (q4 : ((i : Nat) : Int) < 16) : FnF Try.prog 18 true [.list ((madeF L1).map encQ), .int .i64 ((i : Nat) : Int), .int .i64 n1] (.agg [.int .i64 (losN (cntQ (madeF L1) ((i : Nat) : Int)) n1), .int .i64 (losD (cntQ (madeF L1) ((i : Nat) : Int)) n1), .int .i64 (losE n1)]) :=
  fn_evF (by kernel_rfl) Try.func18 (by kernel_rfl) 400
      [.d, .d, .d, .d, .f true (.tuple [.agg [.int .i64 (losN (cntQ (madeF L1) ((i : Nat) : Int)) n1), .int .i64 (losD (cntQ (madeF L1) ((i : Nat) : Int)) n1)], .int .i64 (losE n1)]), .d, .d, .d, .d, .d, .d, .d, .d, .d, .d]
      (by kernel_rfl) (ob := [FnF Try.prog 30 true [.list ((madeF L1).map encQ), .int .i64 ((i : Nat) : Int), .int .i64 n1] (.tuple [.agg [.int .i64 (losN (cntQ (madeF L1) ((i : Nat) : Int)) n1), .int .i64 (losD (cntQ (madeF L1) ((i : Nat) : Int)) n1)], .int .i64 (losE n1)]),
        (losN (cntQ (madeF L1) ((i : Nat) : Int)) n1 : Int) = losN (cntQ (madeF L1) ((i : Nat) : Int)) n1,
        (losD (cntQ (madeF L1) ((i : Nat) : Int)) n1 : Int) = losD (cntQ (madeF L1) ((i : Nat) : Int)) n1,
        (losE n1 : Int) = losE n1]) (by kernel_rfl)
      ⟨od_loss (l := madeF L1) (k := ((i : Nat) : Int)) (c := n1) (made_right hL1) (by omega) (by omega), rfl, rfl, rfl, trivial⟩

set_option maxHeartbeats 1000000 in
theorem ot13_42 {od : List An} {L0 L1 : List Rq} {n0 n1 : Int} {i : Nat} (hL0 : ∀ x ∈ L0, BdW x) (hL1 : ∀ x ∈ L1, BdW x) (h0 : -9223372036854775808 ≤ n0 ∧ n0 ≤ 9223372036854775807) (h1 : -9223372036854775808 ≤ n1 ∧ n1 ≤ 9223372036854775807) (hod : od.length ≤ maxLen) (hn0 : L0.length ≤ maxLen) (hn1 : L1.length ≤ maxLen) (q1 : ¬ ((od.length : Int) > 40)) (q2 : ¬ ((L0.length : Int) > 40)) (q3 : ¬ ((L1.length : Int) > 40)) (hi : i ≤ 16) (q4 : ¬ (((i : Nat) : Int) < 16)) : FnF Try.prog 13 true [.agg [.list ((lrnL (madeF L0) n0 true).map encQ), .int .i64 (lrnE (madeF L0) n0 true)], .agg [.list ((lrnL (madeF L0) n0 true).map encQ), .int .i64 (lrnE (madeF L0) n0 true)]] (.bool true) :=
  fn_evF (by kernel_rfl) Try.func13 (by kernel_rfl) 400
      [.d, .d, .d, .d, .d, .d, .d, .v (.bool true), .d, .d, .d, .d, .d, .f true (.bool (decide ((lrnL (madeF L0) n0 true) = (lrnL (madeF L0) n0 true)))), .d, .v (.bool true)]
      (by kernel_rfl) (ob := [(.bool ((lrnE (madeF L0) n0 true) == (lrnE (madeF L0) n0 true)) : AV) = (.bool true : AV),
        FnF Try.prog 22 true [.list ((lrnL (madeF L0) n0 true).map encQ), .list ((lrnL (madeF L0) n0 true).map encQ)] (.bool (decide ((lrnL (madeF L0) n0 true) = (lrnL (madeF L0) n0 true)))),
        (.bool (decide ((lrnL (madeF L0) n0 true) = (lrnL (madeF L0) n0 true))) : AV) = (.bool true : AV),
        (true : Bool) = true]) (by kernel_rfl)
      ⟨(eT rfl), od_same (a := lrnL (madeF L0) n0 true) (b := lrnL (madeF L0) n0 true) (by have := RightP.len (lrnL_right (madeF L0) n0 true); omega), (bT rfl), rfl, trivial⟩

set_option maxHeartbeats 1000000 in
theorem matches_all {od : List An} {L0 L1 : List Rq} {n0 n1 : Int} (hL0 : ∀ x ∈ L0, BdW x) (hL1 : ∀ x ∈ L1, BdW x) (h0 : -9223372036854775808 ≤ n0 ∧ n0 ≤ 9223372036854775807) (h1 : -9223372036854775808 ≤ n1 ∧ n1 ≤ 9223372036854775807) (hod : od.length ≤ maxLen) (hn0 : L0.length ≤ maxLen) (hn1 : L1.length ≤ maxLen) : FnF Try.prog 3 true [.list (od.map encQ), .agg [.list (L0.map encW), .list (L1.map encW)], .agg [.int .i64 n0, .int .i64 n1]] (.bool true) := by
  refine fn_walkF Try.func3 (by kernel_rfl) (by kernel_rfl) (by kernel_rfl) (st := (stX (.tuple []) 138 [(0, .list (od.map encQ)), (1, .agg [.list (L0.map encW), .list (L1.map encW)]), (2, .agg [.int .i64 n0, .int .i64 n1])] [])) rfl ?_
  refine Ok.seqP [] (by kernel_rfl) ?_
  refine Ok.evf (by kernel_rfl) 400 [.d, .d, .d] [0, 4, 5, 6, 7] 2 (st' := (stX .any 138 [(0, .list (od.map encQ)), (4, .ptr 0 0), (5, .ptr 1 0), (6, .bool false), (7, .tuple [])] [.cells [.list (L0.map encW), .list (L1.map encW)], .cells [.int .i64 n0, .int .i64 n1]])) (e := .normal) (ob := []) (by kernel_rfl) trivial ?_
  refine seq_n ?_
  refine Ok.seqP [true] (by kernel_rfl) ?_
  refine Ok.evf (by kernel_rfl) 400 [.f true (.bool true), .d] [0, 4, 5, 6, 7] 2 (st' := (stX .any 138 [(0, .list (od.map encQ)), (4, .ptr 0 0), (5, .ptr 1 0), (6, .bool false), (7, .bool true)] [.cells [.list (L0.map encW), .list (L1.map encW)], .cells [.int .i64 n0, .int .i64 n1]])) (e := .normal) (ob := [FnF Try.prog 9 true [] (.bool true)]) (by kernel_rfl) ⟨ex_examples, trivial⟩ ?_
  refine seq_n ?_
  refine Ok.seqP [true, true] (by kernel_rfl) ?_
  refine Ok.evf (by kernel_rfl) 400 [.d, .d, .d] [0, 4, 5, 6, 7] 2 (st' := (stX .any 138 [(0, .list (od.map encQ)), (4, .ptr 0 0), (5, .ptr 1 0), (6, .bool false), (7, .bool true)] [.cells [.list (L0.map encW), .list (L1.map encW)], .cells [.int .i64 n0, .int .i64 n1]])) (e := .normal) (ob := []) (by kernel_rfl) trivial ?_
  refine seq_n ?_
  refine Ok.seqP [true, true, true] (by kernel_rfl) ?_
  refine Ok.seqP [true, true, true, false] (by kernel_rfl) ?_
  by_cases q1 : (od.length : Int) > 40
  · refine Ok.evf (by kernel_rfl) 400 [.d, .v (.int .i64 (od.length : Int)), .v (.bool true), .d, .d, .d, .d, .d, .d, .d, .d, .d, .d, .d, .d] [0, 4, 5, 6, 7, 28] 2 (st' := (stX .any 138 [(0, .list (od.map encQ)), (4, .ptr 0 0), (5, .ptr 1 0), (6, .bool false), (7, .bool true), (28, .bool true)] [.cells [.list (L0.map encW), .list (L1.map encW)], .cells [.int .i64 n0, .int .i64 n1]])) (e := .normal) (ob := [(.int .i64 (((od.map encQ).length : Nat) : Int) : AV) = (.int .i64 (od.length : Int) : AV),
        (.bool (decide ((od.length : Int) > 40)) : AV) = (.bool true : AV)]) (by kernel_rfl) ⟨len_map, (bT q1), trivial⟩ ?_
    refine seq_n ?_
    refine Ok.evf (by kernel_rfl) 400 [.d, .d, .d] [6] 2 (st' := (stX .any 138 [(6, .bool true)] [.cells [.list (L0.map encW), .list (L1.map encW)], .cells [.int .i64 n0, .int .i64 n1]])) (e := .ret) (ob := []) (by kernel_rfl) trivial ?_
    refine seq_r ?_
    exact ⟨.inr rfl, finF_of (ob := [(true : Bool) = true]) (by kernel_rfl) ⟨rfl, trivial⟩⟩
  · by_cases q2 : (L0.length : Int) > 40
    · refine Ok.evf (by kernel_rfl) 400 [.d, .v (.int .i64 (od.length : Int)), .v (.bool false), .d, .d, .d, .v (.int .i64 (L0.length : Int)), .v (.bool true), .d, .d, .d, .d, .d, .d, .d] [0, 4, 5, 6, 7, 28] 2 (st' := (stX .any 138 [(0, .list (od.map encQ)), (4, .ptr 0 0), (5, .ptr 1 0), (6, .bool false), (7, .bool true), (28, .bool true)] [.cells [.list (L0.map encW), .list (L1.map encW)], .cells [.int .i64 n0, .int .i64 n1]])) (e := .normal) (ob := [(.int .i64 (((od.map encQ).length : Nat) : Int) : AV) = (.int .i64 (od.length : Int) : AV),
        (.bool (decide ((od.length : Int) > 40)) : AV) = (.bool false : AV),
        0 ≤ (0 : Int) ∧ (0 : Int) < (2 : Nat),
        (.int .i64 (((L0.map encW).length : Nat) : Int) : AV) = (.int .i64 (L0.length : Int) : AV),
        (.bool (decide ((L0.length : Int) > 40)) : AV) = (.bool true : AV)]) (by kernel_rfl) ⟨len_map, (bF q1), (by decide), len_map, (bT q2), trivial⟩ ?_
      refine seq_n ?_
      refine Ok.evf (by kernel_rfl) 400 [.d, .d, .d] [6] 2 (st' := (stX .any 138 [(6, .bool true)] [.cells [.list (L0.map encW), .list (L1.map encW)], .cells [.int .i64 n0, .int .i64 n1]])) (e := .ret) (ob := []) (by kernel_rfl) trivial ?_
      refine seq_r ?_
      exact ⟨.inr rfl, finF_of (ob := [(true : Bool) = true]) (by kernel_rfl) ⟨rfl, trivial⟩⟩
    · by_cases q3 : (L1.length : Int) > 40
      · refine Ok.evf (by kernel_rfl) 400 [.d, .v (.int .i64 (od.length : Int)), .v (.bool false), .d, .d, .d, .v (.int .i64 (L0.length : Int)), .v (.bool false), .d, .d, .d, .d, .v (.int .i64 (L1.length : Int)), .v (.bool true), .d] [0, 4, 5, 6, 7, 28] 2 (st' := (stX .any 138 [(0, .list (od.map encQ)), (4, .ptr 0 0), (5, .ptr 1 0), (6, .bool false), (7, .bool true), (28, .bool true)] [.cells [.list (L0.map encW), .list (L1.map encW)], .cells [.int .i64 n0, .int .i64 n1]])) (e := .normal) (ob := [(.int .i64 (((od.map encQ).length : Nat) : Int) : AV) = (.int .i64 (od.length : Int) : AV),
        (.bool (decide ((od.length : Int) > 40)) : AV) = (.bool false : AV),
        0 ≤ (0 : Int) ∧ (0 : Int) < (2 : Nat),
        (.int .i64 (((L0.map encW).length : Nat) : Int) : AV) = (.int .i64 (L0.length : Int) : AV),
        (.bool (decide ((L0.length : Int) > 40)) : AV) = (.bool false : AV),
        0 ≤ (1 : Int) ∧ (1 : Int) < (2 : Nat),
        (.int .i64 (((L1.map encW).length : Nat) : Int) : AV) = (.int .i64 (L1.length : Int) : AV),
        (.bool (decide ((L1.length : Int) > 40)) : AV) = (.bool true : AV)]) (by kernel_rfl) ⟨len_map, (bF q1), (by decide), len_map, (bF q2), (by decide), len_map, (bT q3), trivial⟩ ?_
        refine seq_n ?_
        refine Ok.evf (by kernel_rfl) 400 [.d, .d, .d] [6] 2 (st' := (stX .any 138 [(6, .bool true)] [.cells [.list (L0.map encW), .list (L1.map encW)], .cells [.int .i64 n0, .int .i64 n1]])) (e := .ret) (ob := []) (by kernel_rfl) trivial ?_
        refine seq_r ?_
        exact ⟨.inr rfl, finF_of (ob := [(true : Bool) = true]) (by kernel_rfl) ⟨rfl, trivial⟩⟩
      · refine Ok.evf (by kernel_rfl) 400 [.d, .v (.int .i64 (od.length : Int)), .v (.bool false), .d, .d, .d, .v (.int .i64 (L0.length : Int)), .v (.bool false), .d, .d, .d, .d, .v (.int .i64 (L1.length : Int)), .v (.bool false), .d] [0, 4, 5, 6, 7, 28] 2 (st' := (stX .any 138 [(0, .list (od.map encQ)), (4, .ptr 0 0), (5, .ptr 1 0), (6, .bool false), (7, .bool true), (28, .bool false)] [.cells [.list (L0.map encW), .list (L1.map encW)], .cells [.int .i64 n0, .int .i64 n1]])) (e := .normal) (ob := [(.int .i64 (((od.map encQ).length : Nat) : Int) : AV) = (.int .i64 (od.length : Int) : AV),
        (.bool (decide ((od.length : Int) > 40)) : AV) = (.bool false : AV),
        0 ≤ (0 : Int) ∧ (0 : Int) < (2 : Nat),
        (.int .i64 (((L0.map encW).length : Nat) : Int) : AV) = (.int .i64 (L0.length : Int) : AV),
        (.bool (decide ((L0.length : Int) > 40)) : AV) = (.bool false : AV),
        0 ≤ (1 : Int) ∧ (1 : Int) < (2 : Nat),
        (.int .i64 (((L1.map encW).length : Nat) : Int) : AV) = (.int .i64 (L1.length : Int) : AV),
        (.bool (decide ((L1.length : Int) > 40)) : AV) = (.bool false : AV)]) (by kernel_rfl) ⟨len_map, (bF q1), (by decide), len_map, (bF q2), (by decide), len_map, (bF q3), trivial⟩ ?_
        refine seq_n ?_
        refine Ok.evf (by kernel_rfl) 400 [.d] [0, 4, 5, 6, 7, 8, 9] 2 (st' := (stX .any 138 [(0, .list (od.map encQ)), (4, .ptr 0 0), (5, .ptr 1 0), (6, .bool false), (7, .bool true)] [.cells [.list (L0.map encW), .list (L1.map encW)], .cells [.int .i64 n0, .int .i64 n1]])) (e := .normal) (ob := []) (by kernel_rfl) trivial ?_
        refine seq_n ?_
        refine Ok.seqP [true, true, true, true] (by kernel_rfl) ?_
        refine Ok.evf (by kernel_rfl) 400 [.d, .d, .f true (.list ((madeF L0).map encQ)), .d, .d, .f true (.list ((madeF L1).map encQ)), .d, .d] [0, 5, 6, 7, 8, 9] 2 (st' := (stX .any 138 [(0, .list (od.map encQ)), (5, .ptr 1 0), (6, .bool false), (7, .bool true), (8, .list ((madeF L0).map encQ)), (9, .list ((madeF L1).map encQ))] [.cells [.list (L0.map encW), .list (L1.map encW)], .cells [.int .i64 n0, .int .i64 n1]])) (e := .normal) (ob := [0 ≤ (0 : Int) ∧ (0 : Int) < (2 : Nat),
        FnF Try.prog 10 true [.list (L0.map encW)] (.list ((madeF L0).map encQ)),
        0 ≤ (1 : Int) ∧ (1 : Int) < (2 : Nat),
        FnF Try.prog 10 true [.list (L1.map encW)] (.list ((madeF L1).map encQ))]) (by kernel_rfl) ⟨(by decide), od_made hL0 (by omega), (by decide), od_made hL1 (by omega), trivial⟩ ?_
        refine seq_n ?_
        refine Ok.seqP [true, true, true, true, true] (by kernel_rfl) ?_
        refine Ok.evf (by kernel_rfl) 400 [.d, .f true (.int .i64 (rightE od)), .d, .f true (.int .i64 (rightE od)), .v (.bool false), .d, .d, .f true (.int .i64 (rightE (madeF L0))), .v (.bool false), .d, .d, .d, .d, .f true (.agg [.list ((joinL (mergeF (madeF L0) (madeF L1))).map encQ), .int .i64 (joinE (mergeF (madeF L0) (madeF L1)))]), .d, .d, .f true (.agg [.list ((joinL (mergeF (madeF L0) (madeF L1))).map encQ), .int .i64 (joinE (mergeF (madeF L0) (madeF L1)))]), .f true (.bool true), .d, .d, .d, .d, .d, .d, .f true (.agg [.int .i64 (oddN (cntQ (madeF L0) n0)), .int .i64 (oddD (cntQ (madeF L0) n0))]), .d, .d, .d, .f true (.agg [.int .i64 (oddN (cntQ (madeF L0) n0)), .int .i64 (oddD (cntQ (madeF L0) n0))]), .v (.bool false), .d, .d, .d, .d, .d, .d, .d, .f true (.agg [.int .i64 (losN (cntQ (madeF L0) n0) n1), .int .i64 (losD (cntQ (madeF L0) n0) n1), .int .i64 (losE n1)]), .d, .d, .d, .d, .d, .f true (.agg [.int .i64 (losN (cntQ (madeF L0) n0) n1), .int .i64 (losD (cntQ (madeF L0) n0) n1), .int .i64 (losE n1)]), .v (.bool false), .d, .d] [5, 6, 7, 8, 9, 10] 2 (st' := (stX .any 138 [(5, .ptr 1 0), (6, .bool false), (7, .bool true), (8, .list ((madeF L0).map encQ)), (9, .list ((madeF L1).map encQ))] [.cells [.list (L0.map encW), .list (L1.map encW)], .cells [.int .i64 n0, .int .i64 n1]])) (e := .normal) (ob := [FnF Try.prog 11 true [.list (od.map encQ)] (.int .i64 (rightE od)),
        FnF Try.prog 12 true [.list (od.map encQ)] (.int .i64 (rightE od)),
        (.bool ((rightE od) != (rightE od)) : AV) = (.bool false : AV),
        FnF Try.prog 11 true [.list ((madeF L0).map encQ)] (.int .i64 (rightE (madeF L0))),
        (.bool ((rightE (madeF L0)) != 0) : AV) = (.bool false : AV),
        FnF Try.prog 14 true [.list ((madeF L0).map encQ), .list ((madeF L1).map encQ)] (.agg [.list ((joinL (mergeF (madeF L0) (madeF L1))).map encQ), .int .i64 (joinE (mergeF (madeF L0) (madeF L1)))]),
        FnF Try.prog 15 true [.list ((madeF L0).map encQ), .list ((madeF L1).map encQ)] (.agg [.list ((joinL (mergeF (madeF L0) (madeF L1))).map encQ), .int .i64 (joinE (mergeF (madeF L0) (madeF L1)))]),
        FnF Try.prog 13 true [.agg [.list ((joinL (mergeF (madeF L0) (madeF L1))).map encQ), .int .i64 (joinE (mergeF (madeF L0) (madeF L1)))], .agg [.list ((joinL (mergeF (madeF L0) (madeF L1))).map encQ), .int .i64 (joinE (mergeF (madeF L0) (madeF L1)))]] (.bool true),
        0 ≤ (0 : Int) ∧ (0 : Int) < (2 : Nat),
        FnF Try.prog 16 true [.list ((madeF L0).map encQ), .int .i64 n0] (.agg [.int .i64 (oddN (cntQ (madeF L0) n0)), .int .i64 (oddD (cntQ (madeF L0) n0))]),
        0 ≤ (0 : Int) ∧ (0 : Int) < (2 : Nat),
        FnF Try.prog 17 true [.list ((madeF L0).map encQ), .int .i64 n0] (.agg [.int .i64 (oddN (cntQ (madeF L0) n0)), .int .i64 (oddD (cntQ (madeF L0) n0))]),
        (.bool (!(((oddN (cntQ (madeF L0) n0)) == (oddN (cntQ (madeF L0) n0))) && (((oddD (cntQ (madeF L0) n0)) == (oddD (cntQ (madeF L0) n0))) && true))) : AV) = (.bool false : AV),
        0 ≤ (0 : Int) ∧ (0 : Int) < (2 : Nat),
        0 ≤ (1 : Int) ∧ (1 : Int) < (2 : Nat),
        FnF Try.prog 18 true [.list ((madeF L0).map encQ), .int .i64 n0, .int .i64 n1] (.agg [.int .i64 (losN (cntQ (madeF L0) n0) n1), .int .i64 (losD (cntQ (madeF L0) n0) n1), .int .i64 (losE n1)]),
        0 ≤ (0 : Int) ∧ (0 : Int) < (2 : Nat),
        0 ≤ (1 : Int) ∧ (1 : Int) < (2 : Nat),
        FnF Try.prog 19 true [.list ((madeF L0).map encQ), .int .i64 n0, .int .i64 n1] (.agg [.int .i64 (losN (cntQ (madeF L0) n0) n1), .int .i64 (losD (cntQ (madeF L0) n0) n1), .int .i64 (losE n1)]),
        (.bool (!((((losN (cntQ (madeF L0) n0) n1) == (losN (cntQ (madeF L0) n0) n1)) && (((losD (cntQ (madeF L0) n0) n1) == (losD (cntQ (madeF L0) n0) n1)) && true)) && (((losE n1) == (losE n1)) && true))) : AV) = (.bool false : AV)]) (by kernel_rfl) ⟨od_right (l := od) (by omega), od_rright (l := od) (by omega), (nF rfl), od_right (l := madeF L0) (by have := RightP.len (made_right hL0); omega), (nF (rightE_z (made_right hL0))), od_joined (a := madeF L0) (b := madeF L1) (made_right hL0).bd (made_right hL1).bd (by have := RightP.len (made_right hL0); have := RightP.len (made_right hL1); omega), od_rjoin (a := madeF L0) (b := madeF L1) (made_right hL0) (made_right hL1), (ot13_37 hL0 hL1 h0 h1 hod hn0 hn1 q1 q2 q3), (by decide), od_odd (l := madeF L0) (k := n0) (made_right hL0) (by omega), (by decide), od_rodd (l := madeF L0) (k := n0) (made_right hL0) (by omega), (bNotF (bAnd (eT rfl) (bAnd (eT rfl) rfl))), (by decide), (by decide), (ot18_38 hL0 hL1 h0 h1 hod hn0 hn1 q1 q2 q3), (by decide), (by decide), od_rloss (l := madeF L0) (k := n0) (c := n1) (made_right hL0) (by omega) (by omega), (bNotF (bAnd (bAnd (eT rfl) (bAnd (eT rfl) rfl)) (bAnd (eT rfl) rfl))), trivial⟩ ?_
        refine seq_n ?_
        refine Ok.seqP [true, true, true, true, true, true] (by kernel_rfl) ?_
        refine Ok.seqP [true, true, true, true, true, true, false] (by kernel_rfl) ?_
        refine Ok.evf (by kernel_rfl) 400 [.d] [5, 7, 8, 9, 10] 2 (st' := (stX .any 138 [(5, .ptr 1 0), (7, .bool true), (8, .list ((madeF L0).map encQ)), (9, .list ((madeF L1).map encQ)), (10, .int .i64 0)] [.cells [.list (L0.map encW), .list (L1.map encW)], .cells [.int .i64 n0, .int .i64 n1]])) (e := .normal) (ob := []) (by kernel_rfl) trivial ?_
        refine seq_n ?_
        refine Ok.blockP [true, true, true, true, true, true, false, true] 0 (by kernel_rfl) ?_
        refine Ok.loopB [true, true, true, true, true, true, false, true, false] (by kernel_rfl) (fun m_ s_ => ∃ (i : Nat), (i ≤ 16) ∧ m_ = 16 - i ∧ s_ = (stX .any 138 [(5, .ptr 1 0), (7, .bool true), (8, .list ((madeF L0).map encQ)), (9, .list ((madeF L1).map encQ)), (10, .int .i64 ((i : Nat) : Int))] [.cells [.list (L0.map encW), .list (L1.map encW)], .cells [.int .i64 n0, .int .i64 n1]])) (16 - 0) (⟨0, (by omega), rfl, rfl⟩) ?_
        rintro m_ s_ ⟨i, hi, rfl, rfl⟩
        refine Ok.seqP [true, true, true, true, true, true, false, true, false, false] (by kernel_rfl) ?_
        refine Ok.seqP [true, true, true, true, true, true, false, true, false, false, false] (by kernel_rfl) ?_
        by_cases q4 : ((i : Nat) : Int) < 16
        · refine Ok.evf (by kernel_rfl) 400 [.d, .v (.bool true)] [5, 6, 7, 8, 9, 10, 83] 2 (st' := (stX .any 138 [(5, .ptr 1 0), (7, .bool true), (8, .list ((madeF L0).map encQ)), (9, .list ((madeF L1).map encQ)), (10, .int .i64 ((i : Nat) : Int)), (83, .bool true)] [.cells [.list (L0.map encW), .list (L1.map encW)], .cells [.int .i64 n0, .int .i64 n1]])) (e := .normal) (ob := [(.bool (decide (((i : Nat) : Int) < 16)) : AV) = (.bool true : AV)]) (by kernel_rfl) ⟨(bT q4), trivial⟩ ?_
          refine seq_n ?_
          refine Ok.evf (by kernel_rfl) 400 [.d] [5, 6, 7, 8, 9, 10] 2 (st' := (stX .any 138 [(5, .ptr 1 0), (7, .bool true), (8, .list ((madeF L0).map encQ)), (9, .list ((madeF L1).map encQ)), (10, .int .i64 ((i : Nat) : Int))] [.cells [.list (L0.map encW), .list (L1.map encW)], .cells [.int .i64 n0, .int .i64 n1]])) (e := .normal) (ob := []) (by kernel_rfl) trivial ?_
          refine seq_n ?_
          refine Ok.evf (by kernel_rfl) 400 [.d, .d, .f true (.agg [.list ((lrnL (madeF L0) ((i : Nat) : Int) true).map encQ), .int .i64 (lrnE (madeF L0) ((i : Nat) : Int) true)]), .d, .d, .f false (.agg [.list ((lrnL (madeF L0) ((i : Nat) : Int) true).map encQ), .int .i64 (lrnE (madeF L0) ((i : Nat) : Int) true)]), .f true (.bool true), .d, .d, .d, .d, .f true (.agg [.list ((lrnL (madeF L0) ((i : Nat) : Int) false).map encQ), .int .i64 (lrnE (madeF L0) ((i : Nat) : Int) false)]), .d, .d, .f false (.agg [.list ((lrnL (madeF L0) ((i : Nat) : Int) false).map encQ), .int .i64 (lrnE (madeF L0) ((i : Nat) : Int) false)]), .f true (.bool true), .d, .d, .d, .d, .d, .f true (.agg [.int .i64 (oddN (cntQ (madeF L0) ((i : Nat) : Int))), .int .i64 (oddD (cntQ (madeF L0) ((i : Nat) : Int)))]), .d, .d, .f true (.agg [.int .i64 (oddN (cntQ (madeF L0) ((i : Nat) : Int))), .int .i64 (oddD (cntQ (madeF L0) ((i : Nat) : Int)))]), .v (.bool false), .d, .d, .d, .d, .d, .d, .f true (.agg [.int .i64 (losN (cntQ (madeF L1) ((i : Nat) : Int)) n1), .int .i64 (losD (cntQ (madeF L1) ((i : Nat) : Int)) n1), .int .i64 (losE n1)]), .d, .d, .d, .d, .f true (.agg [.int .i64 (losN (cntQ (madeF L1) ((i : Nat) : Int)) n1), .int .i64 (losD (cntQ (madeF L1) ((i : Nat) : Int)) n1), .int .i64 (losE n1)]), .v (.bool false), .d, .d, .d, .v (.int .i64 (((i : Nat) : Int) + 1)), .d] [5, 7, 8, 9, 10] 2 (st' := (stX .any 138 [(5, .ptr 1 0), (7, .bool true), (8, .list ((madeF L0).map encQ)), (9, .list ((madeF L1).map encQ)), (10, .int .i64 (((i : Nat) : Int) + 1))] [.cells [.list (L0.map encW), .list (L1.map encW)], .cells [.int .i64 n0, .int .i64 n1]])) (e := .normal) (ob := [FnF Try.prog 20 true [.list ((madeF L0).map encQ), .int .i64 ((i : Nat) : Int), .bool true] (.agg [.list ((lrnL (madeF L0) ((i : Nat) : Int) true).map encQ), .int .i64 (lrnE (madeF L0) ((i : Nat) : Int) true)]),
        FnF Try.prog 21 false [.list ((madeF L0).map encQ), .int .i64 ((i : Nat) : Int), .bool true] (.agg [.list ((lrnL (madeF L0) ((i : Nat) : Int) true).map encQ), .int .i64 (lrnE (madeF L0) ((i : Nat) : Int) true)]),
        FnF Try.prog 13 true [.agg [.list ((lrnL (madeF L0) ((i : Nat) : Int) true).map encQ), .int .i64 (lrnE (madeF L0) ((i : Nat) : Int) true)], .agg [.list ((lrnL (madeF L0) ((i : Nat) : Int) true).map encQ), .int .i64 (lrnE (madeF L0) ((i : Nat) : Int) true)]] (.bool true),
        FnF Try.prog 20 true [.list ((madeF L0).map encQ), .int .i64 ((i : Nat) : Int), .bool false] (.agg [.list ((lrnL (madeF L0) ((i : Nat) : Int) false).map encQ), .int .i64 (lrnE (madeF L0) ((i : Nat) : Int) false)]),
        FnF Try.prog 21 false [.list ((madeF L0).map encQ), .int .i64 ((i : Nat) : Int), .bool false] (.agg [.list ((lrnL (madeF L0) ((i : Nat) : Int) false).map encQ), .int .i64 (lrnE (madeF L0) ((i : Nat) : Int) false)]),
        FnF Try.prog 13 true [.agg [.list ((lrnL (madeF L0) ((i : Nat) : Int) false).map encQ), .int .i64 (lrnE (madeF L0) ((i : Nat) : Int) false)], .agg [.list ((lrnL (madeF L0) ((i : Nat) : Int) false).map encQ), .int .i64 (lrnE (madeF L0) ((i : Nat) : Int) false)]] (.bool true),
        FnF Try.prog 16 true [.list ((madeF L0).map encQ), .int .i64 ((i : Nat) : Int)] (.agg [.int .i64 (oddN (cntQ (madeF L0) ((i : Nat) : Int))), .int .i64 (oddD (cntQ (madeF L0) ((i : Nat) : Int)))]),
        FnF Try.prog 17 true [.list ((madeF L0).map encQ), .int .i64 ((i : Nat) : Int)] (.agg [.int .i64 (oddN (cntQ (madeF L0) ((i : Nat) : Int))), .int .i64 (oddD (cntQ (madeF L0) ((i : Nat) : Int)))]),
        (.bool (!(((oddN (cntQ (madeF L0) ((i : Nat) : Int))) == (oddN (cntQ (madeF L0) ((i : Nat) : Int)))) && (((oddD (cntQ (madeF L0) ((i : Nat) : Int))) == (oddD (cntQ (madeF L0) ((i : Nat) : Int)))) && true))) : AV) = (.bool false : AV),
        0 ≤ (1 : Int) ∧ (1 : Int) < (2 : Nat),
        FnF Try.prog 18 true [.list ((madeF L1).map encQ), .int .i64 ((i : Nat) : Int), .int .i64 n1] (.agg [.int .i64 (losN (cntQ (madeF L1) ((i : Nat) : Int)) n1), .int .i64 (losD (cntQ (madeF L1) ((i : Nat) : Int)) n1), .int .i64 (losE n1)]),
        0 ≤ (1 : Int) ∧ (1 : Int) < (2 : Nat),
        FnF Try.prog 19 true [.list ((madeF L1).map encQ), .int .i64 ((i : Nat) : Int), .int .i64 n1] (.agg [.int .i64 (losN (cntQ (madeF L1) ((i : Nat) : Int)) n1), .int .i64 (losD (cntQ (madeF L1) ((i : Nat) : Int)) n1), .int .i64 (losE n1)]),
        (.bool (!((((losN (cntQ (madeF L1) ((i : Nat) : Int)) n1) == (losN (cntQ (madeF L1) ((i : Nat) : Int)) n1)) && (((losD (cntQ (madeF L1) ((i : Nat) : Int)) n1) == (losD (cntQ (madeF L1) ((i : Nat) : Int)) n1)) && true)) && (((losE n1) == (losE n1)) && true))) : AV) = (.bool false : AV),
        (.int .i64 (IntKind.wrap .i64 (((i : Nat) : Int) + 1)) : AV) = (.int .i64 (((i : Nat) : Int) + 1) : AV)]) (by kernel_rfl) ⟨od_learnedB (l := madeF L0) (k := ((i : Nat) : Int)) (r := true) (by omega) (made_right hL0).bd (by have := RightP.len (made_right hL0); omega), od_rlearn_true (l := madeF L0) (k := ((i : Nat) : Int)) (made_right hL0) (by omega), (ot13_39 hL0 hL1 h0 h1 hod hn0 hn1 q1 q2 q3 hi q4), od_learnedB (l := madeF L0) (k := ((i : Nat) : Int)) (r := false) (by omega) (made_right hL0).bd (by have := RightP.len (made_right hL0); omega), od_rlearn_false (l := madeF L0) (k := ((i : Nat) : Int)) (made_right hL0) (by omega), (ot13_40 hL0 hL1 h0 h1 hod hn0 hn1 q1 q2 q3 hi q4), od_odd (l := madeF L0) (k := ((i : Nat) : Int)) (made_right hL0) (by omega), od_rodd (l := madeF L0) (k := ((i : Nat) : Int)) (made_right hL0) (by omega), (bNotF (bAnd (eT rfl) (bAnd (eT rfl) rfl))), (by decide), (ot18_41 hL0 hL1 h0 h1 hod hn0 hn1 q1 q2 q3 hi q4), (by decide), od_rloss (l := madeF L1) (k := ((i : Nat) : Int)) (c := n1) (made_right hL1) (by omega) (by omega), (bNotF (bAnd (bAnd (eT rfl) (bAnd (eT rfl) rfl)) (bAnd (eT rfl) rfl))), iW (w64 (by omega) (by omega)), trivial⟩ ?_
          exact loop_g [5, 7, 8, 9, 10] 2 (16 - (i + 1)) (by omega) rfl (s' := (stX .any 138 [(5, .ptr 1 0), (7, .bool true), (8, .list ((madeF L0).map encQ)), (9, .list ((madeF L1).map encQ)), (10, .int .i64 (((i : Nat) : Int) + 1))] [.cells [.list (L0.map encW), .list (L1.map encW)], .cells [.int .i64 n0, .int .i64 n1]])) (ob := []) (by kernel_rfl) trivial (⟨(i + 1), (by omega), rfl, rfl⟩)
        · refine Ok.evf (by kernel_rfl) 400 [.d, .v (.bool false)] [5, 6, 7, 8, 9, 10, 83] 2 (st' := (stX .any 138 [(5, .ptr 1 0), (7, .bool true), (8, .list ((madeF L0).map encQ)), (9, .list ((madeF L1).map encQ)), (10, .int .i64 ((i : Nat) : Int)), (83, .bool false)] [.cells [.list (L0.map encW), .list (L1.map encW)], .cells [.int .i64 n0, .int .i64 n1]])) (e := .normal) (ob := [(.bool (decide (((i : Nat) : Int) < 16)) : AV) = (.bool false : AV)]) (by kernel_rfl) ⟨(bF q4), trivial⟩ ?_
          refine seq_n ?_
          refine Ok.evf (by kernel_rfl) 400 [.d] [5, 6, 7, 8] 2 (st' := (stX .any 138 [(5, .ptr 1 0), (7, .bool true), (8, .list ((madeF L0).map encQ))] [.cells [.list (L0.map encW), .list (L1.map encW)], .cells [.int .i64 n0, .int .i64 n1]])) (e := (.exit 0)) (ob := []) (by kernel_rfl) trivial ?_
          refine seq_e ?_
          refine loopg_e ?_
          refine blkQ_here ?_
          refine seq_n ?_
          refine Ok.evf (by kernel_rfl) 400 [.d, .d, .d, .f true (.agg [.list ((lrnL (madeF L0) n0 true).map encQ), .int .i64 (lrnE (madeF L0) n0 true)]), .d, .d, .d, .f false (.agg [.list ((lrnL (madeF L0) n0 true).map encQ), .int .i64 (lrnE (madeF L0) n0 true)]), .f true (.bool true), .d, .d, .d, .d] [6] 2 (st' := (stX .any 138 [(6, .bool true)] [.cells [.list (L0.map encW), .list (L1.map encW)], .cells [.int .i64 n0, .int .i64 n1]])) (e := .ret) (ob := [0 ≤ (0 : Int) ∧ (0 : Int) < (2 : Nat),
        FnF Try.prog 20 true [.list ((madeF L0).map encQ), .int .i64 n0, .bool true] (.agg [.list ((lrnL (madeF L0) n0 true).map encQ), .int .i64 (lrnE (madeF L0) n0 true)]),
        0 ≤ (0 : Int) ∧ (0 : Int) < (2 : Nat),
        FnF Try.prog 21 false [.list ((madeF L0).map encQ), .int .i64 n0, .bool true] (.agg [.list ((lrnL (madeF L0) n0 true).map encQ), .int .i64 (lrnE (madeF L0) n0 true)]),
        FnF Try.prog 13 true [.agg [.list ((lrnL (madeF L0) n0 true).map encQ), .int .i64 (lrnE (madeF L0) n0 true)], .agg [.list ((lrnL (madeF L0) n0 true).map encQ), .int .i64 (lrnE (madeF L0) n0 true)]] (.bool true)]) (by kernel_rfl) ⟨(by decide), od_learnedB (l := madeF L0) (k := n0) (r := true) (by omega) (made_right hL0).bd (by have := RightP.len (made_right hL0); omega), (by decide), od_rlearn_true (l := madeF L0) (k := n0) (made_right hL0) (by omega), (ot13_42 hL0 hL1 h0 h1 hod hn0 hn1 q1 q2 q3 hi q4), trivial⟩ ?_
          exact ⟨.inr rfl, finF_of (ob := [(true : Bool) = true]) (by kernel_rfl) ⟨rfl, trivial⟩⟩

end Go.Proofs.Ytlhmionefjopiaa
