/- The examples of chapter 32 -/
import Derived.Test.YtglfbdicclepcaaFdGat
import Derived.Test.YtglfbdicclepcaaProg
set_option linter.unusedVariables false
set_option linter.unusedSimpArgs false
namespace Go.Proofs.Ytglfbdicclepcaa
open Go.RowKit
set_option maxRecDepth 100000
set_option maxHeartbeats 1000000 in
theorem fx59_1   : FnF Try.prog 59 true [.int .i64 19] (.int .u64 19) :=
  fn_e2 Try.func59 400 [.d, .d, .d, .d, .d, .v (.int .u64 19), .d] (ob := [(.int .u64 (IntKind.wrap .u64 (19)) : AV) = (.int .u64 19 : AV), (19 : Int) = 19]) ⟨rfl, rfl, trivial⟩

set_option maxHeartbeats 1000000 in
theorem fx59_2   : FnF Try.prog 59 true [.int .i64 38] (.int .u64 38) :=
  fn_e2 Try.func59 400 [.d, .d, .d, .d, .d, .v (.int .u64 38), .d] (ob := [(.int .u64 (IntKind.wrap .u64 (38)) : AV) = (.int .u64 38 : AV), (38 : Int) = 38]) ⟨rfl, rfl, trivial⟩

set_option maxHeartbeats 1000000 in
theorem fx63_3   : FnF Try.prog 63 true [.list [.int .u64 19, .int .u64 38]] (.int .u64 19) :=
  fn_e2 Try.func63 400 [.d, .d, .d, .d, .d, .d, .d, .v (iV 1), .d, .d, .d, .d, .d, .d, .d, .d, .d, .d, .d, .d, .v (.int .u64 19), .d, .d, .d, .d, .d, .d, .d, .d, .v (.int .u64 0), .d, .d, .d, .d, .d, .v (iV 1), .d, .d, .d, .d, .d] (ob := [0 ≤ (0 : Int), 0 ≤ (1 : Int) ∧ (1 : Int) ≤ ((([.int .u64 19, .int .u64 38] : List AV)).length : Int) ∧ ((([.int .u64 19, .int .u64 38] : List AV)).length : Int) ≤ ((([.int .u64 19, .int .u64 38] : List AV) : List AV).length : Int), ∀ x ∈ (([.int .u64 19, .int .u64 38] : List AV) : List AV), (cellsOf x).length = 1, (iV (([.int .u64 38] : List AV).length : Int) : AV) = (iV 1 : AV), 0 ≤ (0 : Int), (.int .u64 ((19 : Int).tmod 38) : AV) = (.int .u64 19 : AV), (38 : Int) ≠ 0, (.int .u64 ((38 : Int).tmod 19) : AV) = (.int .u64 0 : AV), (19 : Int) ≠ 0, (iV (IntKind.wrap .i64 (0 + 1)) : AV) = (iV 1 : AV), (19 : Int) = 19]) ⟨(by decide), (by first | (simp; done) | omega | (simp; omega)), (by simp [cellsOf]), rfl, (by decide), rfl, (by decide), rfl, (by decide), rfl, rfl, trivial⟩

set_option maxHeartbeats 1000000 in
theorem fx77_4   : FnF Try.prog 77 true [.agg [.bool false, .int .u64 0, .int .u64 1]] (.tuple [.int .i64 1, .bool true]) :=
  fn_e2 Try.func77 400 [.d, .d, .d, .d, .d, .d, .d, .d, .d, .d, .d, .d, .d, .d, .d, .d, .d, .v (iV 1), .d, .d] (ob := [(iV (IntKind.wrap .i64 (1)) : AV) = (iV 1 : AV), (1 : Int) = 1, (true : Bool) = true]) ⟨rfl, rfl, rfl, trivial⟩

set_option maxHeartbeats 1000000 in
theorem fx77_5   : FnF Try.prog 77 true [.agg [.bool false, .int .u64 0, .int .u64 2]] (.tuple [.int .i64 2, .bool true]) :=
  fn_e2 Try.func77 400 [.d, .d, .d, .d, .d, .d, .d, .d, .d, .d, .d, .d, .d, .d, .d, .d, .d, .v (iV 2), .d, .d] (ob := [(iV (IntKind.wrap .i64 (2)) : AV) = (iV 2 : AV), (2 : Int) = 2, (true : Bool) = true]) ⟨rfl, rfl, rfl, trivial⟩

set_option maxHeartbeats 1000000 in
theorem fx67_6   : FnF Try.prog 67 true [.agg [.bool false, .int .u64 0, .int .u64 1], .agg [.bool false, .int .u64 0, .int .u64 2]] (.tuple [.agg [.int .i64 1, .int .i64 2], .int .i64 0]) :=
  fn_e2 Try.func67 400 [.d, .d, .d, .d, .d, .f true (.tuple [iV 1, .bool true]), .d, .d, .d, .d, .d, .d, .f true (.tuple [iV 2, .bool true]), .d, .d, .d, .d, .d, .d, .d, .d, .d, .d, .d, .d, .d, .d, .d, .d, .d] (ob := [_, _, (1 : Int) = 1, (2 : Int) = 2, (0 : Int) = 0]) ⟨fx77_4, fx77_5, rfl, rfl, rfl, trivial⟩

set_option maxHeartbeats 1000000 in
theorem fx53_7   : FnF Try.prog 53 true [.int .i64 19, .int .i64 38] (.tuple [.agg [.int .i64 1, .int .i64 2], .int .i64 0]) :=
  fn_e2 Try.func53 400 [.d, .d, .d, .d, .d, .d, .d, .d, .d, .f true (.int .u64 19), .d, .f true (.int .u64 38), .d, .f true (.int .u64 19), .d, .d, .d, .d, .d, .v (.bool false), .d, .f true (.int .u64 19), .d, .v (.int .u64 1), .d, .d, .f true (.int .u64 38), .d, .v (.int .u64 2), .d, .f true (.tuple [.agg [iV 1, iV 2], iV 0]), .d, .d, .d, .d] (ob := [_, _, _, ∀ e ∈ ([.int .u64 19, .int .u64 38] : List AV), idsOf e = [], (.bool (!(false == false)) : AV) = (.bool false : AV), _, (.int .u64 (IntKind.wrap .u64 ((19 : Int).tdiv 19)) : AV) = (.int .u64 1 : AV), (19 : Int) ≠ 0, _, (.int .u64 (IntKind.wrap .u64 ((38 : Int).tdiv 19)) : AV) = (.int .u64 2 : AV), (19 : Int) ≠ 0, _, (1 : Int) = 1, (2 : Int) = 2, (0 : Int) = 0]) ⟨fx59_1, fx59_2, fx63_3, (by simp [idsOf, idsL]), bneB rfl rfl, fx59_1, rfl, (by decide), fx59_2, rfl, (by decide), fx67_6, rfl, rfl, rfl, trivial⟩

set_option maxHeartbeats 1000000 in
theorem fx38_8   : FnF Try.prog 38 true [.agg [.int .i64 0, .int .i64 0, .int .i64 90, .int .i64 38, .int .i64 0, .int .i64 0]] (.tuple [.agg [.int .i64 1, .int .i64 2], .int .i64 0]) :=
  fn_e2 Try.func38 400 [.d, .d, .d, .d, .d, .d, .d, .d, .d, .d, .d, .d, .d, .d, .d, .d, .d, .d, .f true (.tuple [.agg [iV 1, iV 2], iV 0]), .d, .d, .d, .d] (ob := [_, (1 : Int) = 1, (2 : Int) = 2, (0 : Int) = 0]) ⟨fx53_7, rfl, rfl, rfl, trivial⟩

set_option maxHeartbeats 1000000 in
theorem fx21_9   : FnF Try.prog 21 true [.agg [.int .i64 0, .int .i64 0, .int .i64 90, .int .i64 38, .int .i64 0, .int .i64 0]] (.agg [.int .i64 1, .int .i64 2, .int .i64 0]) :=
  fn_e2 Try.func21 400 [.d, .d, .d, .f true (.tuple [.agg [iV 1, iV 2], iV 0]), .d, .d, .d, .d, .d, .d, .d, .d, .d, .d] (ob := [_, (1 : Int) = 1, (2 : Int) = 2, (0 : Int) = 0]) ⟨fx38_8, rfl, rfl, rfl, trivial⟩

set_option maxHeartbeats 1000000 in
theorem fx63_10   : FnF Try.prog 63 true [.list [.int .u64 19, .int .u64 19]] (.int .u64 19) :=
  fn_e2 Try.func63 400 [.d, .d, .d, .d, .d, .d, .d, .v (iV 1), .d, .d, .d, .d, .d, .d, .d, .d, .d, .d, .d, .d, .v (.int .u64 0), .d, .d, .d, .d, .d, .v (iV 1), .d, .d, .d, .d, .d] (ob := [0 ≤ (0 : Int), 0 ≤ (1 : Int) ∧ (1 : Int) ≤ ((([.int .u64 19, .int .u64 19] : List AV)).length : Int) ∧ ((([.int .u64 19, .int .u64 19] : List AV)).length : Int) ≤ ((([.int .u64 19, .int .u64 19] : List AV) : List AV).length : Int), ∀ x ∈ (([.int .u64 19, .int .u64 19] : List AV) : List AV), (cellsOf x).length = 1, (iV (([.int .u64 19] : List AV).length : Int) : AV) = (iV 1 : AV), 0 ≤ (0 : Int), (.int .u64 ((19 : Int).tmod 19) : AV) = (.int .u64 0 : AV), (19 : Int) ≠ 0, (iV (IntKind.wrap .i64 (0 + 1)) : AV) = (iV 1 : AV), (19 : Int) = 19]) ⟨(by decide), (by first | (simp; done) | omega | (simp; omega)), (by simp [cellsOf]), rfl, (by decide), rfl, (by decide), rfl, rfl, trivial⟩

set_option maxHeartbeats 1000000 in
theorem fx67_11   : FnF Try.prog 67 true [.agg [.bool false, .int .u64 0, .int .u64 1], .agg [.bool false, .int .u64 0, .int .u64 1]] (.tuple [.agg [.int .i64 1, .int .i64 1], .int .i64 0]) :=
  fn_e2 Try.func67 400 [.d, .d, .d, .d, .d, .f true (.tuple [iV 1, .bool true]), .d, .d, .d, .d, .d, .d, .f true (.tuple [iV 1, .bool true]), .d, .d, .d, .d, .d, .d, .d, .d, .d, .d, .d, .d, .d, .d, .d, .d, .d] (ob := [_, _, (1 : Int) = 1, (1 : Int) = 1, (0 : Int) = 0]) ⟨fx77_4, fx77_4, rfl, rfl, rfl, trivial⟩

set_option maxHeartbeats 1000000 in
theorem fx53_12   : FnF Try.prog 53 true [.int .i64 19, .int .i64 19] (.tuple [.agg [.int .i64 1, .int .i64 1], .int .i64 0]) :=
  fn_e2 Try.func53 400 [.d, .d, .d, .d, .d, .d, .d, .d, .d, .f true (.int .u64 19), .d, .f true (.int .u64 19), .d, .f true (.int .u64 19), .d, .d, .d, .d, .d, .v (.bool false), .d, .f true (.int .u64 19), .d, .v (.int .u64 1), .d, .d, .f true (.int .u64 19), .d, .v (.int .u64 1), .d, .f true (.tuple [.agg [iV 1, iV 1], iV 0]), .d, .d, .d, .d] (ob := [_, _, _, ∀ e ∈ ([.int .u64 19, .int .u64 19] : List AV), idsOf e = [], (.bool (!(false == false)) : AV) = (.bool false : AV), _, (.int .u64 (IntKind.wrap .u64 ((19 : Int).tdiv 19)) : AV) = (.int .u64 1 : AV), (19 : Int) ≠ 0, _, (.int .u64 (IntKind.wrap .u64 ((19 : Int).tdiv 19)) : AV) = (.int .u64 1 : AV), (19 : Int) ≠ 0, _, (1 : Int) = 1, (1 : Int) = 1, (0 : Int) = 0]) ⟨fx59_1, fx59_1, fx63_10, (by simp [idsOf, idsL]), bneB rfl rfl, fx59_1, rfl, (by decide), fx59_1, rfl, (by decide), fx67_11, rfl, rfl, rfl, trivial⟩

set_option maxHeartbeats 1000000 in
theorem fx38_13   : FnF Try.prog 38 true [.agg [.int .i64 0, .int .i64 0, .int .i64 90, .int .i64 5, .int .i64 0, .int .i64 0]] (.tuple [.agg [.int .i64 1, .int .i64 1], .int .i64 0]) :=
  fn_e2 Try.func38 400 [.d, .d, .d, .d, .d, .d, .d, .d, .d, .d, .d, .d, .d, .d, .d, .d, .d, .d, .f true (.tuple [.agg [iV 1, iV 1], iV 0]), .d, .d, .d, .d] (ob := [_, (1 : Int) = 1, (1 : Int) = 1, (0 : Int) = 0]) ⟨fx53_12, rfl, rfl, rfl, trivial⟩

set_option maxHeartbeats 1000000 in
theorem fx21_14   : FnF Try.prog 21 true [.agg [.int .i64 0, .int .i64 0, .int .i64 90, .int .i64 5, .int .i64 0, .int .i64 0]] (.agg [.int .i64 1, .int .i64 1, .int .i64 0]) :=
  fn_e2 Try.func21 400 [.d, .d, .d, .f true (.tuple [.agg [iV 1, iV 1], iV 0]), .d, .d, .d, .d, .d, .d, .d, .d, .d, .d] (ob := [_, (1 : Int) = 1, (1 : Int) = 1, (0 : Int) = 0]) ⟨fx38_13, rfl, rfl, rfl, trivial⟩

set_option maxHeartbeats 1000000 in
theorem fx65_15   : FnF Try.prog 65 true [] (.tuple [.agg [.int .i64 0, .int .i64 1], .int .i64 0]) :=
  fn_e2 Try.func65 400 [.d, .d, .d, .d, .d] (ob := [(0 : Int) = 0, (1 : Int) = 1, (0 : Int) = 0]) ⟨rfl, rfl, rfl, trivial⟩

set_option maxHeartbeats 1000000 in
theorem fx53_16   : FnF Try.prog 53 true [.int .i64 0, .int .i64 1] (.tuple [.agg [.int .i64 0, .int .i64 1], .int .i64 0]) :=
  fn_e2 Try.func53 400 [.d, .d, .d, .d, .d, .d, .d, .d, .f true (.tuple [.agg [iV 0, iV 1], iV 0]), .d, .d, .d, .d] (ob := [_, (0 : Int) = 0, (1 : Int) = 1, (0 : Int) = 0]) ⟨fx65_15, rfl, rfl, rfl, trivial⟩

set_option maxHeartbeats 1000000 in
theorem fx38_17   : FnF Try.prog 38 true [.agg [.int .i64 0, .int .i64 0, .int .i64 5, .int .i64 5, .int .i64 0, .int .i64 0]] (.tuple [.agg [.int .i64 0, .int .i64 1], .int .i64 0]) :=
  fn_e2 Try.func38 400 [.d, .d, .d, .d, .d, .d, .d, .d, .d, .d, .d, .d, .d, .d, .d, .f true (.tuple [.agg [iV 0, iV 1], iV 0]), .d, .d, .d, .d] (ob := [_, (0 : Int) = 0, (1 : Int) = 1, (0 : Int) = 0]) ⟨fx53_16, rfl, rfl, rfl, trivial⟩

set_option maxHeartbeats 1000000 in
theorem fx21_18   : FnF Try.prog 21 true [.agg [.int .i64 0, .int .i64 0, .int .i64 5, .int .i64 5, .int .i64 0, .int .i64 0]] (.agg [.int .i64 0, .int .i64 1, .int .i64 0]) :=
  fn_e2 Try.func21 400 [.d, .d, .d, .f true (.tuple [.agg [iV 0, iV 1], iV 0]), .d, .d, .d, .d, .d, .d, .d, .d, .d, .d] (ob := [_, (0 : Int) = 0, (1 : Int) = 1, (0 : Int) = 0]) ⟨fx38_17, rfl, rfl, rfl, trivial⟩

set_option maxHeartbeats 1000000 in
theorem fx38_19   : FnF Try.prog 38 true [.agg [.int .i64 0, .int .i64 0, .int .i64 9, .int .i64 5, .int .i64 1, .int .i64 0]] (.tuple [.agg [.int .i64 0, .int .i64 0], .int .i64 320]) :=
  fn_e2 Try.func38 400 [.d, .d, .d, .d, .d, .d, .d, .d, .d, .d, .d] (ob := [(0 : Int) = 0, (0 : Int) = 0, (320 : Int) = 320]) ⟨rfl, rfl, rfl, trivial⟩

set_option maxHeartbeats 1000000 in
theorem fx21_20   : FnF Try.prog 21 true [.agg [.int .i64 0, .int .i64 0, .int .i64 9, .int .i64 5, .int .i64 1, .int .i64 0]] (.agg [.int .i64 0, .int .i64 0, .int .i64 320]) :=
  fn_e2 Try.func21 400 [.d, .d, .d, .f true (.tuple [.agg [iV 0, iV 0], iV 320]), .d, .d, .d, .d, .d, .d, .d, .d, .d, .d] (ob := [_, (0 : Int) = 0, (0 : Int) = 0, (320 : Int) = 320]) ⟨fx38_19, rfl, rfl, rfl, trivial⟩

set_option maxHeartbeats 1000000 in
theorem fx_examples   : FnF Try.prog 10 true [] (.bool true) := by
  refine fn_flow Try.func10 (st := (stX (.tuple []) 86 [] [])) ?_
  exact OkP.f 400 [.d, .d, .d, .d, .f true (.agg [iV 0, iV 1, iV 7, iV 5, iV 5, iV 0, .int .u64 3537693289769809383]), .d, .d, .d, .f true (.agg [iV 0, iV 4, iV 7, iV 90, iV 30, iV 1, .int .u64 16864066128521870015]), .d, .d, .d, .d, .d, .d, .d, .d, .d, .d, .d, .d, .f true (iV 0), .d, .d, .d, .d, .f true (iV 320), .d, .d, .d, .d, .f true (iV 320), .d, .d, .d, .d, .d, .d, .d, .d, .d, .f true (.agg [iV 7, iV 1, iV 90, iV 30, iV 1, iV 2]), .d, .v (.bool false), .d, .d, .d, .d, .d, .f true (.agg [iV 8, iV 0, iV 0, iV 0, iV 0, iV 0]), .d, .v (.bool false), .d, .d, .d, .d, .d, .f true (.int .u64 3537693289769809383), .d, .d, .d, .d, .d, .d, .d, .d, .d, .d, .d, .d, .d, .d, .d, .d, .f true (.agg [iV 1, iV 2, iV 0]), .d, .v (.bool true), .d, .d, .f true (.agg [iV 1, iV 1, iV 0]), .d, .v (.bool true), .d, .d, .d, .f true (.agg [iV 0, iV 1, iV 0]), .d, .v (.bool true), .d, .d, .d, .f true (.agg [iV 0, iV 0, iV 320]), .d, .d, .d, .d] (ob := [FnF Try.prog 12 true [.int .u64 99, .agg [iV 0, iV 1, iV 7, iV 5, iV 5, iV 0, .int .u64 0]] (.agg [iV 0, iV 1, iV 7, iV 5, iV 5, iV 0, .int .u64 3537693289769809383]), FnF Try.prog 12 true [.int .u64 99, .agg [iV 0, iV 4, iV 7, iV 90, iV 30, iV 1, .int .u64 0]] (.agg [iV 0, iV 4, iV 7, iV 90, iV 30, iV 1, .int .u64 16864066128521870015]), FnF Try.prog 17 true [.list [.int .u64 99], .agg [iV 0, iV 1, iV 7, iV 5, iV 5, iV 0, .int .u64 3537693289769809383]] (iV 0), ∀ e ∈ ([.int .u64 99] : List AV), idsOf e = [], FnF Try.prog 17 true [.list [.int .u64 99], .agg [iV 0, iV 4, iV 7, iV 90, iV 30, iV 0, .int .u64 16864066128521870015]] (iV 320), ∀ e ∈ ([.int .u64 99] : List AV), idsOf e = [], FnF Try.prog 17 true [.nilslice, .agg [iV 0, iV 1, iV 7, iV 5, iV 5, iV 0, .int .u64 3537693289769809383]] (iV 320), FnF Try.prog 19 true [.list [.int .u64 99], .list [.agg [iV 0, iV 4, iV 7, iV 90, iV 30, iV 1, .int .u64 16864066128521870015], .agg [iV 0, iV 1, iV 7, iV 5, iV 5, iV 0, .int .u64 3537693289769809383], .agg [iV 0, iV 4, iV 7, iV 90, iV 30, iV 0, .int .u64 16864066128521870015], .agg [iV 0, iV 4, iV 7, iV 90, iV 30, iV 1, .int .u64 16864066128521870015]], iV 7] (.agg [iV 7, iV 1, iV 90, iV 30, iV 1, iV 2]), ∀ e ∈ ([.int .u64 99] : List AV), idsOf e = [], ∀ e ∈ ([.agg [iV 0, iV 4, iV 7, iV 90, iV 30, iV 1, .int .u64 16864066128521870015], .agg [iV 0, iV 1, iV 7, iV 5, iV 5, iV 0, .int .u64 3537693289769809383], .agg [iV 0, iV 4, iV 7, iV 90, iV 30, iV 0, .int .u64 16864066128521870015], .agg [iV 0, iV 4, iV 7, iV 90, iV 30, iV 1, .int .u64 16864066128521870015]] : List AV), idsOf e = [], (.bool (!(((7 : Int) == 7) && (((1 : Int) == 1) && (((90 : Int) == 90) && (((30 : Int) == 30) && (((1 : Int) == 1) && (((2 : Int) == 2) && true))))))) : AV) = (.bool false : AV), FnF Try.prog 19 true [.list [.int .u64 99], .list [.agg [iV 0, iV 1, iV 7, iV 5, iV 5, iV 0, .int .u64 3537693289769809383]], iV 8] (.agg [iV 8, iV 0, iV 0, iV 0, iV 0, iV 0]), ∀ e ∈ ([.int .u64 99] : List AV), idsOf e = [], ∀ e ∈ ([.agg [iV 0, iV 1, iV 7, iV 5, iV 5, iV 0, .int .u64 3537693289769809383]] : List AV), idsOf e = [], (.bool (!(((8 : Int) == 8) && (((0 : Int) == 0) && (((0 : Int) == 0) && (((0 : Int) == 0) && (((0 : Int) == 0) && (((0 : Int) == 0) && true))))))) : AV) = (.bool false : AV), FnF Try.prog 14 true [.int .u64 99, .agg [iV 0, iV 1, iV 7, iV 5, iV 5, iV 0, .int .u64 3537693289769809383]] (.int .u64 3537693289769809383), _, (.bool ((((1 : Int) == 1) && (((2 : Int) == 2) && true)) && (((0 : Int) == 0) && true)) : AV) = (.bool true : AV), _, (.bool ((((1 : Int) == 1) && (((1 : Int) == 1) && true)) && (((0 : Int) == 0) && true)) : AV) = (.bool true : AV), _, (.bool ((((0 : Int) == 0) && (((1 : Int) == 1) && true)) && (((0 : Int) == 0) && true)) : AV) = (.bool true : AV), _, (true : Bool) = true]) ⟨(by have h_ := fd_sign (key := 99) (c := (⟨0, 1, 7, 5, 5, 0, 0⟩ : Ct)); rw [show signC 99 (⟨0, 1, 7, 5, 5, 0, 0⟩ : Ct) = (⟨0, 1, 7, 5, 5, 0, 3537693289769809383⟩ : Ct) from by kernel_rfl] at h_; exact h_), (by have h_ := fd_sign (key := 99) (c := (⟨0, 4, 7, 90, 30, 1, 0⟩ : Ct)); rw [show signC 99 (⟨0, 4, 7, 90, 30, 1, 0⟩ : Ct) = (⟨0, 4, 7, 90, 30, 1, 16864066128521870015⟩ : Ct) from by kernel_rfl] at h_; exact h_), (by have h_ := fd_right (keys := ([99] : List Int)) (c := (⟨0, 1, 7, 5, 5, 0, 3537693289769809383⟩ : Ct)); rw [show rightE ([99] : List Int) (⟨0, 1, 7, 5, 5, 0, 3537693289769809383⟩ : Ct) = 0 from by kernel_rfl] at h_; exact h_), (by simp [idsOf, idsL]), (by have h_ := fd_right (keys := ([99] : List Int)) (c := (⟨0, 4, 7, 90, 30, 0, 16864066128521870015⟩ : Ct)); rw [show rightE ([99] : List Int) (⟨0, 4, 7, 90, 30, 0, 16864066128521870015⟩ : Ct) = 320 from by kernel_rfl] at h_; exact h_), (by simp [idsOf, idsL]), (FnF.sub (xs := [.list (([] : List Int).map encU), encK (⟨0, 1, 7, 5, 5, 0, 3537693289769809383⟩ : Ct)]) (by have h_ := fd_right (keys := ([] : List Int)) (c := (⟨0, 1, 7, 5, 5, 0, 3537693289769809383⟩ : Ct)); rw [show rightE ([] : List Int) (⟨0, 1, 7, 5, 5, 0, 3537693289769809383⟩ : Ct) = 320 from by kernel_rfl] at h_; exact h_) ⟨.nil, .refl _, trivial⟩), (by have h_ := fd_gather (keys := ([99] : List Int)) (l := ([(⟨0, 4, 7, 90, 30, 1, 16864066128521870015⟩ : Ct), (⟨0, 1, 7, 5, 5, 0, 3537693289769809383⟩ : Ct), (⟨0, 4, 7, 90, 30, 0, 16864066128521870015⟩ : Ct), (⟨0, 4, 7, 90, 30, 1, 16864066128521870015⟩ : Ct)] : List Ct)) (p := 7) (by decide); rw [show gathS ([99] : List Int) ([(⟨0, 4, 7, 90, 30, 1, 16864066128521870015⟩ : Ct), (⟨0, 1, 7, 5, 5, 0, 3537693289769809383⟩ : Ct), (⟨0, 4, 7, 90, 30, 0, 16864066128521870015⟩ : Ct), (⟨0, 4, 7, 90, 30, 1, 16864066128521870015⟩ : Ct)] : List Ct) 7 = (⟨7, 1, 90, 30, 1, 2⟩ : Evd) from by kernel_rfl] at h_; exact h_), (by simp [idsOf, idsL]), (by simp [idsOf, idsL]), (bNotF (bAnd (eT (by omega)) (bAnd (eT (by omega)) (bAnd (eT (by omega)) (bAnd (eT (by omega)) (bAnd (eT (by omega)) (bAnd (eT (by omega)) rfl))))))), (by have h_ := fd_gather (keys := ([99] : List Int)) (l := ([(⟨0, 1, 7, 5, 5, 0, 3537693289769809383⟩ : Ct)] : List Ct)) (p := 8) (by decide); rw [show gathS ([99] : List Int) ([(⟨0, 1, 7, 5, 5, 0, 3537693289769809383⟩ : Ct)] : List Ct) 8 = (⟨8, 0, 0, 0, 0, 0⟩ : Evd) from by kernel_rfl] at h_; exact h_), (by simp [idsOf, idsL]), (by simp [idsOf, idsL]), (bNotF (bAnd (eT (by omega)) (bAnd (eT (by omega)) (bAnd (eT (by omega)) (bAnd (eT (by omega)) (bAnd (eT (by omega)) (bAnd (eT (by omega)) rfl))))))), (by have h_ := fd_tag (key := 99) (c := (⟨0, 1, 7, 5, 5, 0, 3537693289769809383⟩ : Ct)); rw [show tagI 99 (⟨0, 1, 7, 5, 5, 0, 3537693289769809383⟩ : Ct) = 3537693289769809383 from by kernel_rfl] at h_; exact h_), fx21_9, (bAnd (bAnd (eT (by omega)) (bAnd (eT (by omega)) rfl)) (bAnd (eT (by omega)) rfl)), fx21_14, (bAnd (bAnd (eT (by omega)) (bAnd (eT (by omega)) rfl)) (bAnd (eT (by omega)) rfl)), fx21_18, (bAnd (bAnd (eT (by omega)) (bAnd (eT (by omega)) rfl)) (bAnd (eT (by omega)) rfl)), fx21_20, rfl, trivial⟩

end Go.Proofs.Ytglfbdicclepcaa
