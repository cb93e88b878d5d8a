/- The examples of chapter 13 -/
import Derived.Test.YtioiffbnbjalcaaRuW
import Derived.Test.YtioiffbnbjalcaaUsg
import Derived.Test.YtioiffbnbjalcaaProg
set_option linter.unusedVariables false
set_option linter.unusedSimpArgs false
namespace Go.Proofs.Ytioiffbnbjalcaa
open Go.RowKit
set_option maxRecDepth 100000
set_option maxHeartbeats 4000000 in
theorem rx56_1   : FnF Try.prog 56 true [iA 0, iA 1] (iA 0) :=
  fn_e2 Try.func56 400 [.d, .d, .d, .v (iV 0), .d, .v (iV 1), .d, .v (iV 0), .d] (ob := [(iV ((0 : Int).tmod 1) : AV) = (iV 0 : AV), (1 : Int) ≠ 0, (iV (IntKind.wrap .i64 (0 + 1)) : AV) = (iV 1 : AV), (iV ((1 : Int).tmod 1) : AV) = (iV 0 : AV), (1 : Int) ≠ 0, (0 : Int) = 0]) ⟨rfl, (by decide), rfl, rfl, (by decide), rfl, trivial⟩

set_option maxHeartbeats 4000000 in
theorem rx35_2   : FnF Try.prog 35 true [iA 0, iA 81, iA 1, iA 255] (.agg [iA 0, iA 81, iA 1, iA 0, iA 255]) :=
  fn_e2 Try.func35 400 [.d, .d, .d, .d, .d, .d, .d, .v (iV 81), .d, .v (iV 0), .v (iV 81), .d, .d, .d, .d, .d, .d, .d, .d, .d, .d, .f true (iV 0), .d, .d, .d] (ob := [(iV (IntKind.wrap .i64 (81 - 0)) : AV) = (iV 81 : AV), (iV ((81 : Int).tmod 1) : AV) = (iV 0 : AV), (1 : Int) ≠ 0, (iV (IntKind.wrap .i64 (81 - 0)) : AV) = (iV 81 : AV), _, (0 : Int) = 0, (81 : Int) = 81, (1 : Int) = 1, (0 : Int) = 0, (255 : Int) = 255]) ⟨rfl, rfl, (by decide), rfl, rx56_1, rfl, rfl, rfl, rfl, rfl, trivial⟩

set_option maxHeartbeats 4000000 in
theorem rx69_3   : FnF Try.prog 69 true [.agg [iA 0, iA 81, iA 255]] (.agg [iA 0, iA 81, iA 1, iA 0, iA 255]) :=
  fn_e2 Try.func69 400 [.d, .d, .d, .d, .d, .d, .d, .d, .f true (.agg [iV 0, iV 81, iV 1, iV 0, iV 255]), .d] (ob := [_, (0 : Int) = 0, (81 : Int) = 81, (1 : Int) = 1, (0 : Int) = 0, (255 : Int) = 255]) ⟨rx35_2, rfl, rfl, rfl, rfl, rfl, trivial⟩

set_option maxHeartbeats 4000000 in
theorem rx76_4   : FnF Try.prog 76 true [.agg [iA 0, iA 81, iA 3, iA 0, iA 0]] (iA 28) :=
  fn_e2 Try.func76 400 [.d, .d, .d, .d, .d, .d, .v (iV 81), .d, .d, .v (iV 27), .v (iV 28), .d] (ob := [(iV (IntKind.wrap .i64 (81 - 0)) : AV) = (iV 81 : AV), (iV (IntKind.wrap .i64 ((81 : Int).tdiv 3)) : AV) = (iV 27 : AV), (3 : Int) ≠ 0, (iV (IntKind.wrap .i64 (27 + 1)) : AV) = (iV 28 : AV), (28 : Int) = 28]) ⟨rfl, rfl, (by decide), rfl, rfl, trivial⟩

set_option maxHeartbeats 4000000 in
theorem rx36_5   : FnF Try.prog 36 true [.agg [iA 0, iA 81, iA 1, iA 0, iA 255], iA 0] (.bool true) :=
  fn_e2 Try.func36 400 [.d, .d, .d, .d, .d, .d, .d, .d, .d, .d, .d, .d, .d, .d, .d, .d, .v (iV 0), .d, .d, .v (iV 0), .d, .d, .d] (ob := [(iV (IntKind.wrap .i64 (0 - 0)) : AV) = (iV 0 : AV), (iV ((0 : Int).tmod 1) : AV) = (iV 0 : AV), (1 : Int) ≠ 0, (true : Bool) = true]) ⟨rfl, rfl, (by decide), rfl, trivial⟩

set_option maxHeartbeats 4000000 in
theorem rx35_6   : FnF Try.prog 35 true [iA 0, iA 0, iA 0, iA 0] (.agg [iA 0, iA 0, iA 1, iA 0, iA 0]) :=
  fn_e2 Try.func35 400 [.d, .d, .d, .d, .d, .d, .d, .d, .d, .d, .d, .d, .d] (ob := [(0 : Int) = 0, (0 : Int) = 0, (1 : Int) = 1, (0 : Int) = 0, (0 : Int) = 0]) ⟨rfl, rfl, rfl, rfl, rfl, trivial⟩

set_option maxHeartbeats 4000000 in
theorem rx36_7   : FnF Try.prog 36 true [.agg [iA 0, iA 81, iA 1, iA 0, iA 255], iA 3] (.bool true) :=
  fn_e2 Try.func36 400 [.d, .d, .d, .d, .d, .d, .d, .d, .d, .d, .d, .d, .d, .d, .d, .d, .v (iV 3), .d, .d, .v (iV 0), .d, .d, .d] (ob := [(iV (IntKind.wrap .i64 (3 - 0)) : AV) = (iV 3 : AV), (iV ((3 : Int).tmod 1) : AV) = (iV 0 : AV), (1 : Int) ≠ 0, (true : Bool) = true]) ⟨rfl, rfl, (by decide), rfl, trivial⟩

set_option maxHeartbeats 4000000 in
theorem rx35_8   : FnF Try.prog 35 true [iA 3, iA 3, iA 0, iA 0] (.agg [iA 3, iA 3, iA 1, iA 0, iA 0]) :=
  fn_e2 Try.func35 400 [.d, .d, .d, .d, .d, .d, .d, .d, .d, .d, .d, .d, .d] (ob := [(3 : Int) = 3, (3 : Int) = 3, (1 : Int) = 1, (0 : Int) = 0, (0 : Int) = 0]) ⟨rfl, rfl, rfl, rfl, rfl, trivial⟩

set_option maxHeartbeats 4000000 in
theorem rx38_9   : FnF Try.prog 38 true [.agg [iA 0, iA 0, iA 1, iA 0, iA 0]] (iA 0) :=
  fn_e2 Try.func38 400 [.d, .d, .d, .d, .d, .d, .d, .d, .d] (ob := [(0 : Int) = 0]) ⟨rfl, trivial⟩

set_option maxHeartbeats 4000000 in
theorem rx38_10   : FnF Try.prog 38 true [.agg [iA 3, iA 3, iA 1, iA 0, iA 0]] (iA 0) :=
  fn_e2 Try.func38 400 [.d, .d, .d, .d, .d, .d, .d, .d, .d] (ob := [(0 : Int) = 0]) ⟨rfl, trivial⟩

set_option maxHeartbeats 4000000 in
theorem rx58_11   : FnF Try.prog 58 true [iA (-3)] (iA 3) :=
  fn_e2 Try.func58 400 [.d, .d, .d, .v (iV 3), .d, .d] (ob := [(iV (IntKind.wrap .i64 (0 - (-3))) : AV) = (iV 3 : AV), (3 : Int) = 3]) ⟨rfl, rfl, trivial⟩

set_option maxHeartbeats 4000000 in
theorem rx58_12   : FnF Try.prog 58 true [iA 3] (iA 3) :=
  fn_e2 Try.func58 400 [.d, .d, .d, .v (iV (-3)), .d, .d] (ob := [(iV (IntKind.wrap .i64 (0 - 3)) : AV) = (iV (-3) : AV), (3 : Int) = 3]) ⟨rfl, rfl, trivial⟩

set_option maxHeartbeats 4000000 in
theorem rx57_13   : FnF Try.prog 57 true [iA 0, .list [iA 0, iA 3]] (iA 3) :=
  fn_e2 Try.func57 400 [.d, .d, .v (iV 2), .d, .d, .d, .d, .d, .d, .d, .d, .d, .v (iV 1), .d, .d, .d, .d, .d, .d, .d, .d, .d, .d, .d, .d, .v (iV 0), .d, .d, .d, .d, .d, .v (iV 2), .d, .d, .d, .d, .f true (iV 3), .d] (ob := [(iV (([iV 0, iV 3] : List AV).length : Int) : AV) = (iV 2 : AV), 0 ≤ (0 : Int), (iV (IntKind.wrap .i64 (0 + 1)) : AV) = (iV 1 : AV), 0 ≤ (1 : Int), (iV ((0 : Int).tmod 3) : AV) = (iV 0 : AV), (3 : Int) ≠ 0, (iV (IntKind.wrap .i64 (1 + 1)) : AV) = (iV 2 : AV), _, (3 : Int) = 3]) ⟨rfl, (by decide), rfl, (by decide), rfl, (by decide), rfl, rx58_12, rfl, trivial⟩

set_option maxHeartbeats 4000000 in
theorem rx56_14   : FnF Try.prog 56 true [iA 0, iA 3] (iA 0) :=
  fn_e2 Try.func56 400 [.d, .d, .d, .v (iV 0), .d, .v (iV 3), .d, .v (iV 0), .d] (ob := [(iV ((0 : Int).tmod 3) : AV) = (iV 0 : AV), (3 : Int) ≠ 0, (iV (IntKind.wrap .i64 (0 + 3)) : AV) = (iV 3 : AV), (iV ((3 : Int).tmod 3) : AV) = (iV 0 : AV), (3 : Int) ≠ 0, (0 : Int) = 0]) ⟨rfl, (by decide), rfl, rfl, (by decide), rfl, trivial⟩

set_option maxHeartbeats 4000000 in
theorem rx35_15   : FnF Try.prog 35 true [iA 0, iA 3, iA 3, iA 0] (.agg [iA 0, iA 3, iA 3, iA 0, iA 0]) :=
  fn_e2 Try.func35 400 [.d, .d, .d, .d, .d, .d, .d, .v (iV 3), .d, .v (iV 0), .v (iV 3), .d, .d, .d, .d, .d, .d, .d, .d, .d, .d, .f true (iV 0), .d, .d, .d] (ob := [(iV (IntKind.wrap .i64 (3 - 0)) : AV) = (iV 3 : AV), (iV ((3 : Int).tmod 3) : AV) = (iV 0 : AV), (3 : Int) ≠ 0, (iV (IntKind.wrap .i64 (3 - 0)) : AV) = (iV 3 : AV), _, (0 : Int) = 0, (3 : Int) = 3, (3 : Int) = 3, (0 : Int) = 0, (0 : Int) = 0]) ⟨rfl, rfl, (by decide), rfl, rx56_14, rfl, rfl, rfl, rfl, rfl, trivial⟩

set_option maxHeartbeats 4000000 in
theorem rx37_16   : FnF Try.prog 37 true [.agg [iA 0, iA 0, iA 1, iA 0, iA 0], .agg [iA 3, iA 3, iA 1, iA 0, iA 0]] (.agg [iA 0, iA 3, iA 3, iA 0, iA 0]) :=
  fn_e2 Try.func37 400 [.d, .d, .d, .d, .d, .d, .d, .d, .d, .d, .d, .d, .d, .d, .f true (iV 0), .d, .f true (iV 0), .d, .d, .d, .d, .v (iV (-3)), .f true (iV 3), .d, .f true (iV 3), .d, .d, .d, .d, .v (iV 0), .f true (.agg [iV 0, iV 3, iV 3, iV 0, iV 0]), .d] (ob := [_, _, (iV (IntKind.wrap .i64 (0 - 3)) : AV) = (iV (-3) : AV), _, _, ∀ e ∈ ([iV 0, iV 3] : List AV), idsOf e = [], (iV (bits .or .i64 0 0) : AV) = (iV 0 : AV), _, (0 : Int) = 0, (3 : Int) = 3, (3 : Int) = 3, (0 : Int) = 0, (0 : Int) = 0]) ⟨rx38_9, rx38_10, rfl, rx58_11, rx57_13, (by simp [idsOf, idsL]), rfl, rx35_15, rfl, rfl, rfl, rfl, rfl, trivial⟩

set_option maxHeartbeats 4000000 in
theorem rx36_17   : FnF Try.prog 36 true [.agg [iA 0, iA 81, iA 1, iA 0, iA 255], iA 6] (.bool true) :=
  fn_e2 Try.func36 400 [.d, .d, .d, .d, .d, .d, .d, .d, .d, .d, .d, .d, .d, .d, .d, .d, .v (iV 6), .d, .d, .v (iV 0), .d, .d, .d] (ob := [(iV (IntKind.wrap .i64 (6 - 0)) : AV) = (iV 6 : AV), (iV ((6 : Int).tmod 1) : AV) = (iV 0 : AV), (1 : Int) ≠ 0, (true : Bool) = true]) ⟨rfl, rfl, (by decide), rfl, trivial⟩

set_option maxHeartbeats 4000000 in
theorem rx35_18   : FnF Try.prog 35 true [iA 6, iA 6, iA 0, iA 0] (.agg [iA 6, iA 6, iA 1, iA 0, iA 0]) :=
  fn_e2 Try.func35 400 [.d, .d, .d, .d, .d, .d, .d, .d, .d, .d, .d, .d, .d] (ob := [(6 : Int) = 6, (6 : Int) = 6, (1 : Int) = 1, (0 : Int) = 0, (0 : Int) = 0]) ⟨rfl, rfl, rfl, rfl, rfl, trivial⟩

set_option maxHeartbeats 4000000 in
theorem rx38_19   : FnF Try.prog 38 true [.agg [iA 0, iA 3, iA 3, iA 0, iA 0]] (iA 3) :=
  fn_e2 Try.func38 400 [.d, .d, .d, .d, .d, .d, .d, .d, .d, .d, .d] (ob := [(3 : Int) = 3]) ⟨rfl, trivial⟩

set_option maxHeartbeats 4000000 in
theorem rx38_20   : FnF Try.prog 38 true [.agg [iA 6, iA 6, iA 1, iA 0, iA 0]] (iA 0) :=
  fn_e2 Try.func38 400 [.d, .d, .d, .d, .d, .d, .d, .d, .d] (ob := [(0 : Int) = 0]) ⟨rfl, trivial⟩

set_option maxHeartbeats 4000000 in
theorem rx58_21   : FnF Try.prog 58 true [iA (-6)] (iA 6) :=
  fn_e2 Try.func58 400 [.d, .d, .d, .v (iV 6), .d, .d] (ob := [(iV (IntKind.wrap .i64 (0 - (-6))) : AV) = (iV 6 : AV), (6 : Int) = 6]) ⟨rfl, rfl, trivial⟩

set_option maxHeartbeats 4000000 in
theorem rx57_22   : FnF Try.prog 57 true [iA 3, .list [iA 0, iA 6]] (iA 3) :=
  fn_e2 Try.func57 400 [.d, .d, .v (iV 2), .d, .d, .d, .d, .d, .d, .d, .d, .d, .v (iV 1), .d, .d, .d, .d, .d, .d, .d, .d, .d, .d, .d, .d, .v (iV 3), .d, .d, .d, .d, .d, .d, .d, .d, .v (iV 0), .d, .d, .d, .d, .d, .v (iV 2), .d, .d, .d, .d, .f true (iV 3), .d] (ob := [(iV (([iV 0, iV 6] : List AV).length : Int) : AV) = (iV 2 : AV), 0 ≤ (0 : Int), (iV (IntKind.wrap .i64 (0 + 1)) : AV) = (iV 1 : AV), 0 ≤ (1 : Int), (iV ((3 : Int).tmod 6) : AV) = (iV 3 : AV), (6 : Int) ≠ 0, (iV ((6 : Int).tmod 3) : AV) = (iV 0 : AV), (3 : Int) ≠ 0, (iV (IntKind.wrap .i64 (1 + 1)) : AV) = (iV 2 : AV), _, (3 : Int) = 3]) ⟨rfl, (by decide), rfl, (by decide), rfl, (by decide), rfl, (by decide), rfl, rx58_12, rfl, trivial⟩

set_option maxHeartbeats 4000000 in
theorem rx35_23   : FnF Try.prog 35 true [iA 0, iA 6, iA 3, iA 0] (.agg [iA 0, iA 6, iA 3, iA 0, iA 0]) :=
  fn_e2 Try.func35 400 [.d, .d, .d, .d, .d, .d, .d, .v (iV 6), .d, .v (iV 0), .v (iV 6), .d, .d, .d, .d, .d, .d, .d, .d, .d, .d, .f true (iV 0), .d, .d, .d] (ob := [(iV (IntKind.wrap .i64 (6 - 0)) : AV) = (iV 6 : AV), (iV ((6 : Int).tmod 3) : AV) = (iV 0 : AV), (3 : Int) ≠ 0, (iV (IntKind.wrap .i64 (6 - 0)) : AV) = (iV 6 : AV), _, (0 : Int) = 0, (6 : Int) = 6, (3 : Int) = 3, (0 : Int) = 0, (0 : Int) = 0]) ⟨rfl, rfl, (by decide), rfl, rx56_14, rfl, rfl, rfl, rfl, rfl, trivial⟩

set_option maxHeartbeats 4000000 in
theorem rx37_24   : FnF Try.prog 37 true [.agg [iA 0, iA 3, iA 3, iA 0, iA 0], .agg [iA 6, iA 6, iA 1, iA 0, iA 0]] (.agg [iA 0, iA 6, iA 3, iA 0, iA 0]) :=
  fn_e2 Try.func37 400 [.d, .d, .d, .d, .d, .d, .d, .d, .d, .d, .d, .d, .d, .d, .f true (iV 3), .d, .f true (iV 0), .d, .d, .d, .d, .v (iV (-6)), .f true (iV 6), .d, .f true (iV 3), .d, .d, .d, .d, .v (iV 0), .f true (.agg [iV 0, iV 6, iV 3, iV 0, iV 0]), .d] (ob := [_, _, (iV (IntKind.wrap .i64 (0 - 6)) : AV) = (iV (-6) : AV), _, _, ∀ e ∈ ([iV 0, iV 6] : List AV), idsOf e = [], (iV (bits .or .i64 0 0) : AV) = (iV 0 : AV), _, (0 : Int) = 0, (6 : Int) = 6, (3 : Int) = 3, (0 : Int) = 0, (0 : Int) = 0]) ⟨rx38_19, rx38_20, rfl, rx58_21, rx57_22, (by simp [idsOf, idsL]), rfl, rx35_23, rfl, rfl, rfl, rfl, rfl, trivial⟩

set_option maxHeartbeats 4000000 in
theorem rx36_25   : FnF Try.prog 36 true [.agg [iA 0, iA 81, iA 1, iA 0, iA 255], iA 9] (.bool true) :=
  fn_e2 Try.func36 400 [.d, .d, .d, .d, .d, .d, .d, .d, .d, .d, .d, .d, .d, .d, .d, .d, .v (iV 9), .d, .d, .v (iV 0), .d, .d, .d] (ob := [(iV (IntKind.wrap .i64 (9 - 0)) : AV) = (iV 9 : AV), (iV ((9 : Int).tmod 1) : AV) = (iV 0 : AV), (1 : Int) ≠ 0, (true : Bool) = true]) ⟨rfl, rfl, (by decide), rfl, trivial⟩

set_option maxHeartbeats 4000000 in
theorem rx35_26   : FnF Try.prog 35 true [iA 9, iA 9, iA 0, iA 0] (.agg [iA 9, iA 9, iA 1, iA 0, iA 0]) :=
  fn_e2 Try.func35 400 [.d, .d, .d, .d, .d, .d, .d, .d, .d, .d, .d, .d, .d] (ob := [(9 : Int) = 9, (9 : Int) = 9, (1 : Int) = 1, (0 : Int) = 0, (0 : Int) = 0]) ⟨rfl, rfl, rfl, rfl, rfl, trivial⟩

set_option maxHeartbeats 4000000 in
theorem rx38_27   : FnF Try.prog 38 true [.agg [iA 0, iA 6, iA 3, iA 0, iA 0]] (iA 3) :=
  fn_e2 Try.func38 400 [.d, .d, .d, .d, .d, .d, .d, .d, .d, .d, .d] (ob := [(3 : Int) = 3]) ⟨rfl, trivial⟩

set_option maxHeartbeats 4000000 in
theorem rx38_28   : FnF Try.prog 38 true [.agg [iA 9, iA 9, iA 1, iA 0, iA 0]] (iA 0) :=
  fn_e2 Try.func38 400 [.d, .d, .d, .d, .d, .d, .d, .d, .d] (ob := [(0 : Int) = 0]) ⟨rfl, trivial⟩

set_option maxHeartbeats 4000000 in
theorem rx58_29   : FnF Try.prog 58 true [iA (-9)] (iA 9) :=
  fn_e2 Try.func58 400 [.d, .d, .d, .v (iV 9), .d, .d] (ob := [(iV (IntKind.wrap .i64 (0 - (-9))) : AV) = (iV 9 : AV), (9 : Int) = 9]) ⟨rfl, rfl, trivial⟩

set_option maxHeartbeats 4000000 in
theorem rx57_30   : FnF Try.prog 57 true [iA 3, .list [iA 0, iA 9]] (iA 3) :=
  fn_e2 Try.func57 400 [.d, .d, .v (iV 2), .d, .d, .d, .d, .d, .d, .d, .d, .d, .v (iV 1), .d, .d, .d, .d, .d, .d, .d, .d, .d, .d, .d, .d, .v (iV 3), .d, .d, .d, .d, .d, .d, .d, .d, .v (iV 0), .d, .d, .d, .d, .d, .v (iV 2), .d, .d, .d, .d, .f true (iV 3), .d] (ob := [(iV (([iV 0, iV 9] : List AV).length : Int) : AV) = (iV 2 : AV), 0 ≤ (0 : Int), (iV (IntKind.wrap .i64 (0 + 1)) : AV) = (iV 1 : AV), 0 ≤ (1 : Int), (iV ((3 : Int).tmod 9) : AV) = (iV 3 : AV), (9 : Int) ≠ 0, (iV ((9 : Int).tmod 3) : AV) = (iV 0 : AV), (3 : Int) ≠ 0, (iV (IntKind.wrap .i64 (1 + 1)) : AV) = (iV 2 : AV), _, (3 : Int) = 3]) ⟨rfl, (by decide), rfl, (by decide), rfl, (by decide), rfl, (by decide), rfl, rx58_12, rfl, trivial⟩

set_option maxHeartbeats 4000000 in
theorem rx35_31   : FnF Try.prog 35 true [iA 0, iA 9, iA 3, iA 0] (.agg [iA 0, iA 9, iA 3, iA 0, iA 0]) :=
  fn_e2 Try.func35 400 [.d, .d, .d, .d, .d, .d, .d, .v (iV 9), .d, .v (iV 0), .v (iV 9), .d, .d, .d, .d, .d, .d, .d, .d, .d, .d, .f true (iV 0), .d, .d, .d] (ob := [(iV (IntKind.wrap .i64 (9 - 0)) : AV) = (iV 9 : AV), (iV ((9 : Int).tmod 3) : AV) = (iV 0 : AV), (3 : Int) ≠ 0, (iV (IntKind.wrap .i64 (9 - 0)) : AV) = (iV 9 : AV), _, (0 : Int) = 0, (9 : Int) = 9, (3 : Int) = 3, (0 : Int) = 0, (0 : Int) = 0]) ⟨rfl, rfl, (by decide), rfl, rx56_14, rfl, rfl, rfl, rfl, rfl, trivial⟩

set_option maxHeartbeats 4000000 in
theorem rx37_32   : FnF Try.prog 37 true [.agg [iA 0, iA 6, iA 3, iA 0, iA 0], .agg [iA 9, iA 9, iA 1, iA 0, iA 0]] (.agg [iA 0, iA 9, iA 3, iA 0, iA 0]) :=
  fn_e2 Try.func37 400 [.d, .d, .d, .d, .d, .d, .d, .d, .d, .d, .d, .d, .d, .d, .f true (iV 3), .d, .f true (iV 0), .d, .d, .d, .d, .v (iV (-9)), .f true (iV 9), .d, .f true (iV 3), .d, .d, .d, .d, .v (iV 0), .f true (.agg [iV 0, iV 9, iV 3, iV 0, iV 0]), .d] (ob := [_, _, (iV (IntKind.wrap .i64 (0 - 9)) : AV) = (iV (-9) : AV), _, _, ∀ e ∈ ([iV 0, iV 9] : List AV), idsOf e = [], (iV (bits .or .i64 0 0) : AV) = (iV 0 : AV), _, (0 : Int) = 0, (9 : Int) = 9, (3 : Int) = 3, (0 : Int) = 0, (0 : Int) = 0]) ⟨rx38_27, rx38_28, rfl, rx58_29, rx57_30, (by simp [idsOf, idsL]), rfl, rx35_31, rfl, rfl, rfl, rfl, rfl, trivial⟩

set_option maxHeartbeats 4000000 in
theorem rx36_33   : FnF Try.prog 36 true [.agg [iA 0, iA 81, iA 1, iA 0, iA 255], iA 12] (.bool true) :=
  fn_e2 Try.func36 400 [.d, .d, .d, .d, .d, .d, .d, .d, .d, .d, .d, .d, .d, .d, .d, .d, .v (iV 12), .d, .d, .v (iV 0), .d, .d, .d] (ob := [(iV (IntKind.wrap .i64 (12 - 0)) : AV) = (iV 12 : AV), (iV ((12 : Int).tmod 1) : AV) = (iV 0 : AV), (1 : Int) ≠ 0, (true : Bool) = true]) ⟨rfl, rfl, (by decide), rfl, trivial⟩

set_option maxHeartbeats 4000000 in
theorem rx35_34   : FnF Try.prog 35 true [iA 12, iA 12, iA 0, iA 0] (.agg [iA 12, iA 12, iA 1, iA 0, iA 0]) :=
  fn_e2 Try.func35 400 [.d, .d, .d, .d, .d, .d, .d, .d, .d, .d, .d, .d, .d] (ob := [(12 : Int) = 12, (12 : Int) = 12, (1 : Int) = 1, (0 : Int) = 0, (0 : Int) = 0]) ⟨rfl, rfl, rfl, rfl, rfl, trivial⟩

set_option maxHeartbeats 4000000 in
theorem rx38_35   : FnF Try.prog 38 true [.agg [iA 0, iA 9, iA 3, iA 0, iA 0]] (iA 3) :=
  fn_e2 Try.func38 400 [.d, .d, .d, .d, .d, .d, .d, .d, .d, .d, .d] (ob := [(3 : Int) = 3]) ⟨rfl, trivial⟩

set_option maxHeartbeats 4000000 in
theorem rx38_36   : FnF Try.prog 38 true [.agg [iA 12, iA 12, iA 1, iA 0, iA 0]] (iA 0) :=
  fn_e2 Try.func38 400 [.d, .d, .d, .d, .d, .d, .d, .d, .d] (ob := [(0 : Int) = 0]) ⟨rfl, trivial⟩

set_option maxHeartbeats 4000000 in
theorem rx58_37   : FnF Try.prog 58 true [iA (-12)] (iA 12) :=
  fn_e2 Try.func58 400 [.d, .d, .d, .v (iV 12), .d, .d] (ob := [(iV (IntKind.wrap .i64 (0 - (-12))) : AV) = (iV 12 : AV), (12 : Int) = 12]) ⟨rfl, rfl, trivial⟩

set_option maxHeartbeats 4000000 in
theorem rx57_38   : FnF Try.prog 57 true [iA 3, .list [iA 0, iA 12]] (iA 3) :=
  fn_e2 Try.func57 400 [.d, .d, .v (iV 2), .d, .d, .d, .d, .d, .d, .d, .d, .d, .v (iV 1), .d, .d, .d, .d, .d, .d, .d, .d, .d, .d, .d, .d, .v (iV 3), .d, .d, .d, .d, .d, .d, .d, .d, .v (iV 0), .d, .d, .d, .d, .d, .v (iV 2), .d, .d, .d, .d, .f true (iV 3), .d] (ob := [(iV (([iV 0, iV 12] : List AV).length : Int) : AV) = (iV 2 : AV), 0 ≤ (0 : Int), (iV (IntKind.wrap .i64 (0 + 1)) : AV) = (iV 1 : AV), 0 ≤ (1 : Int), (iV ((3 : Int).tmod 12) : AV) = (iV 3 : AV), (12 : Int) ≠ 0, (iV ((12 : Int).tmod 3) : AV) = (iV 0 : AV), (3 : Int) ≠ 0, (iV (IntKind.wrap .i64 (1 + 1)) : AV) = (iV 2 : AV), _, (3 : Int) = 3]) ⟨rfl, (by decide), rfl, (by decide), rfl, (by decide), rfl, (by decide), rfl, rx58_12, rfl, trivial⟩

set_option maxHeartbeats 4000000 in
theorem rx35_39   : FnF Try.prog 35 true [iA 0, iA 12, iA 3, iA 0] (.agg [iA 0, iA 12, iA 3, iA 0, iA 0]) :=
  fn_e2 Try.func35 400 [.d, .d, .d, .d, .d, .d, .d, .v (iV 12), .d, .v (iV 0), .v (iV 12), .d, .d, .d, .d, .d, .d, .d, .d, .d, .d, .f true (iV 0), .d, .d, .d] (ob := [(iV (IntKind.wrap .i64 (12 - 0)) : AV) = (iV 12 : AV), (iV ((12 : Int).tmod 3) : AV) = (iV 0 : AV), (3 : Int) ≠ 0, (iV (IntKind.wrap .i64 (12 - 0)) : AV) = (iV 12 : AV), _, (0 : Int) = 0, (12 : Int) = 12, (3 : Int) = 3, (0 : Int) = 0, (0 : Int) = 0]) ⟨rfl, rfl, (by decide), rfl, rx56_14, rfl, rfl, rfl, rfl, rfl, trivial⟩

set_option maxHeartbeats 4000000 in
theorem rx37_40   : FnF Try.prog 37 true [.agg [iA 0, iA 9, iA 3, iA 0, iA 0], .agg [iA 12, iA 12, iA 1, iA 0, iA 0]] (.agg [iA 0, iA 12, iA 3, iA 0, iA 0]) :=
  fn_e2 Try.func37 400 [.d, .d, .d, .d, .d, .d, .d, .d, .d, .d, .d, .d, .d, .d, .f true (iV 3), .d, .f true (iV 0), .d, .d, .d, .d, .v (iV (-12)), .f true (iV 12), .d, .f true (iV 3), .d, .d, .d, .d, .v (iV 0), .f true (.agg [iV 0, iV 12, iV 3, iV 0, iV 0]), .d] (ob := [_, _, (iV (IntKind.wrap .i64 (0 - 12)) : AV) = (iV (-12) : AV), _, _, ∀ e ∈ ([iV 0, iV 12] : List AV), idsOf e = [], (iV (bits .or .i64 0 0) : AV) = (iV 0 : AV), _, (0 : Int) = 0, (12 : Int) = 12, (3 : Int) = 3, (0 : Int) = 0, (0 : Int) = 0]) ⟨rx38_35, rx38_36, rfl, rx58_37, rx57_38, (by simp [idsOf, idsL]), rfl, rx35_39, rfl, rfl, rfl, rfl, rfl, trivial⟩

set_option maxHeartbeats 4000000 in
theorem rx36_41   : FnF Try.prog 36 true [.agg [iA 0, iA 81, iA 1, iA 0, iA 255], iA 15] (.bool true) :=
  fn_e2 Try.func36 400 [.d, .d, .d, .d, .d, .d, .d, .d, .d, .d, .d, .d, .d, .d, .d, .d, .v (iV 15), .d, .d, .v (iV 0), .d, .d, .d] (ob := [(iV (IntKind.wrap .i64 (15 - 0)) : AV) = (iV 15 : AV), (iV ((15 : Int).tmod 1) : AV) = (iV 0 : AV), (1 : Int) ≠ 0, (true : Bool) = true]) ⟨rfl, rfl, (by decide), rfl, trivial⟩

set_option maxHeartbeats 4000000 in
theorem rx35_42   : FnF Try.prog 35 true [iA 15, iA 15, iA 0, iA 0] (.agg [iA 15, iA 15, iA 1, iA 0, iA 0]) :=
  fn_e2 Try.func35 400 [.d, .d, .d, .d, .d, .d, .d, .d, .d, .d, .d, .d, .d] (ob := [(15 : Int) = 15, (15 : Int) = 15, (1 : Int) = 1, (0 : Int) = 0, (0 : Int) = 0]) ⟨rfl, rfl, rfl, rfl, rfl, trivial⟩

set_option maxHeartbeats 4000000 in
theorem rx38_43   : FnF Try.prog 38 true [.agg [iA 0, iA 12, iA 3, iA 0, iA 0]] (iA 3) :=
  fn_e2 Try.func38 400 [.d, .d, .d, .d, .d, .d, .d, .d, .d, .d, .d] (ob := [(3 : Int) = 3]) ⟨rfl, trivial⟩

set_option maxHeartbeats 4000000 in
theorem rx38_44   : FnF Try.prog 38 true [.agg [iA 15, iA 15, iA 1, iA 0, iA 0]] (iA 0) :=
  fn_e2 Try.func38 400 [.d, .d, .d, .d, .d, .d, .d, .d, .d] (ob := [(0 : Int) = 0]) ⟨rfl, trivial⟩

set_option maxHeartbeats 4000000 in
theorem rx58_45   : FnF Try.prog 58 true [iA (-15)] (iA 15) :=
  fn_e2 Try.func58 400 [.d, .d, .d, .v (iV 15), .d, .d] (ob := [(iV (IntKind.wrap .i64 (0 - (-15))) : AV) = (iV 15 : AV), (15 : Int) = 15]) ⟨rfl, rfl, trivial⟩

set_option maxHeartbeats 4000000 in
theorem rx57_46   : FnF Try.prog 57 true [iA 3, .list [iA 0, iA 15]] (iA 3) :=
  fn_e2 Try.func57 400 [.d, .d, .v (iV 2), .d, .d, .d, .d, .d, .d, .d, .d, .d, .v (iV 1), .d, .d, .d, .d, .d, .d, .d, .d, .d, .d, .d, .d, .v (iV 3), .d, .d, .d, .d, .d, .d, .d, .d, .v (iV 0), .d, .d, .d, .d, .d, .v (iV 2), .d, .d, .d, .d, .f true (iV 3), .d] (ob := [(iV (([iV 0, iV 15] : List AV).length : Int) : AV) = (iV 2 : AV), 0 ≤ (0 : Int), (iV (IntKind.wrap .i64 (0 + 1)) : AV) = (iV 1 : AV), 0 ≤ (1 : Int), (iV ((3 : Int).tmod 15) : AV) = (iV 3 : AV), (15 : Int) ≠ 0, (iV ((15 : Int).tmod 3) : AV) = (iV 0 : AV), (3 : Int) ≠ 0, (iV (IntKind.wrap .i64 (1 + 1)) : AV) = (iV 2 : AV), _, (3 : Int) = 3]) ⟨rfl, (by decide), rfl, (by decide), rfl, (by decide), rfl, (by decide), rfl, rx58_12, rfl, trivial⟩

set_option maxHeartbeats 4000000 in
theorem rx35_47   : FnF Try.prog 35 true [iA 0, iA 15, iA 3, iA 0] (.agg [iA 0, iA 15, iA 3, iA 0, iA 0]) :=
  fn_e2 Try.func35 400 [.d, .d, .d, .d, .d, .d, .d, .v (iV 15), .d, .v (iV 0), .v (iV 15), .d, .d, .d, .d, .d, .d, .d, .d, .d, .d, .f true (iV 0), .d, .d, .d] (ob := [(iV (IntKind.wrap .i64 (15 - 0)) : AV) = (iV 15 : AV), (iV ((15 : Int).tmod 3) : AV) = (iV 0 : AV), (3 : Int) ≠ 0, (iV (IntKind.wrap .i64 (15 - 0)) : AV) = (iV 15 : AV), _, (0 : Int) = 0, (15 : Int) = 15, (3 : Int) = 3, (0 : Int) = 0, (0 : Int) = 0]) ⟨rfl, rfl, (by decide), rfl, rx56_14, rfl, rfl, rfl, rfl, rfl, trivial⟩

set_option maxHeartbeats 4000000 in
theorem rx37_48   : FnF Try.prog 37 true [.agg [iA 0, iA 12, iA 3, iA 0, iA 0], .agg [iA 15, iA 15, iA 1, iA 0, iA 0]] (.agg [iA 0, iA 15, iA 3, iA 0, iA 0]) :=
  fn_e2 Try.func37 400 [.d, .d, .d, .d, .d, .d, .d, .d, .d, .d, .d, .d, .d, .d, .f true (iV 3), .d, .f true (iV 0), .d, .d, .d, .d, .v (iV (-15)), .f true (iV 15), .d, .f true (iV 3), .d, .d, .d, .d, .v (iV 0), .f true (.agg [iV 0, iV 15, iV 3, iV 0, iV 0]), .d] (ob := [_, _, (iV (IntKind.wrap .i64 (0 - 15)) : AV) = (iV (-15) : AV), _, _, ∀ e ∈ ([iV 0, iV 15] : List AV), idsOf e = [], (iV (bits .or .i64 0 0) : AV) = (iV 0 : AV), _, (0 : Int) = 0, (15 : Int) = 15, (3 : Int) = 3, (0 : Int) = 0, (0 : Int) = 0]) ⟨rx38_43, rx38_44, rfl, rx58_45, rx57_46, (by simp [idsOf, idsL]), rfl, rx35_47, rfl, rfl, rfl, rfl, rfl, trivial⟩

set_option maxHeartbeats 4000000 in
theorem rx36_49   : FnF Try.prog 36 true [.agg [iA 0, iA 81, iA 1, iA 0, iA 255], iA 18] (.bool true) :=
  fn_e2 Try.func36 400 [.d, .d, .d, .d, .d, .d, .d, .d, .d, .d, .d, .d, .d, .d, .d, .d, .v (iV 18), .d, .d, .v (iV 0), .d, .d, .d] (ob := [(iV (IntKind.wrap .i64 (18 - 0)) : AV) = (iV 18 : AV), (iV ((18 : Int).tmod 1) : AV) = (iV 0 : AV), (1 : Int) ≠ 0, (true : Bool) = true]) ⟨rfl, rfl, (by decide), rfl, trivial⟩

set_option maxHeartbeats 4000000 in
theorem rx35_50   : FnF Try.prog 35 true [iA 18, iA 18, iA 0, iA 0] (.agg [iA 18, iA 18, iA 1, iA 0, iA 0]) :=
  fn_e2 Try.func35 400 [.d, .d, .d, .d, .d, .d, .d, .d, .d, .d, .d, .d, .d] (ob := [(18 : Int) = 18, (18 : Int) = 18, (1 : Int) = 1, (0 : Int) = 0, (0 : Int) = 0]) ⟨rfl, rfl, rfl, rfl, rfl, trivial⟩

set_option maxHeartbeats 4000000 in
theorem rx38_51   : FnF Try.prog 38 true [.agg [iA 0, iA 15, iA 3, iA 0, iA 0]] (iA 3) :=
  fn_e2 Try.func38 400 [.d, .d, .d, .d, .d, .d, .d, .d, .d, .d, .d] (ob := [(3 : Int) = 3]) ⟨rfl, trivial⟩

set_option maxHeartbeats 4000000 in
theorem rx38_52   : FnF Try.prog 38 true [.agg [iA 18, iA 18, iA 1, iA 0, iA 0]] (iA 0) :=
  fn_e2 Try.func38 400 [.d, .d, .d, .d, .d, .d, .d, .d, .d] (ob := [(0 : Int) = 0]) ⟨rfl, trivial⟩

set_option maxHeartbeats 4000000 in
theorem rx58_53   : FnF Try.prog 58 true [iA (-18)] (iA 18) :=
  fn_e2 Try.func58 400 [.d, .d, .d, .v (iV 18), .d, .d] (ob := [(iV (IntKind.wrap .i64 (0 - (-18))) : AV) = (iV 18 : AV), (18 : Int) = 18]) ⟨rfl, rfl, trivial⟩

set_option maxHeartbeats 4000000 in
theorem rx57_54   : FnF Try.prog 57 true [iA 3, .list [iA 0, iA 18]] (iA 3) :=
  fn_e2 Try.func57 400 [.d, .d, .v (iV 2), .d, .d, .d, .d, .d, .d, .d, .d, .d, .v (iV 1), .d, .d, .d, .d, .d, .d, .d, .d, .d, .d, .d, .d, .v (iV 3), .d, .d, .d, .d, .d, .d, .d, .d, .v (iV 0), .d, .d, .d, .d, .d, .v (iV 2), .d, .d, .d, .d, .f true (iV 3), .d] (ob := [(iV (([iV 0, iV 18] : List AV).length : Int) : AV) = (iV 2 : AV), 0 ≤ (0 : Int), (iV (IntKind.wrap .i64 (0 + 1)) : AV) = (iV 1 : AV), 0 ≤ (1 : Int), (iV ((3 : Int).tmod 18) : AV) = (iV 3 : AV), (18 : Int) ≠ 0, (iV ((18 : Int).tmod 3) : AV) = (iV 0 : AV), (3 : Int) ≠ 0, (iV (IntKind.wrap .i64 (1 + 1)) : AV) = (iV 2 : AV), _, (3 : Int) = 3]) ⟨rfl, (by decide), rfl, (by decide), rfl, (by decide), rfl, (by decide), rfl, rx58_12, rfl, trivial⟩

set_option maxHeartbeats 4000000 in
theorem rx35_55   : FnF Try.prog 35 true [iA 0, iA 18, iA 3, iA 0] (.agg [iA 0, iA 18, iA 3, iA 0, iA 0]) :=
  fn_e2 Try.func35 400 [.d, .d, .d, .d, .d, .d, .d, .v (iV 18), .d, .v (iV 0), .v (iV 18), .d, .d, .d, .d, .d, .d, .d, .d, .d, .d, .f true (iV 0), .d, .d, .d] (ob := [(iV (IntKind.wrap .i64 (18 - 0)) : AV) = (iV 18 : AV), (iV ((18 : Int).tmod 3) : AV) = (iV 0 : AV), (3 : Int) ≠ 0, (iV (IntKind.wrap .i64 (18 - 0)) : AV) = (iV 18 : AV), _, (0 : Int) = 0, (18 : Int) = 18, (3 : Int) = 3, (0 : Int) = 0, (0 : Int) = 0]) ⟨rfl, rfl, (by decide), rfl, rx56_14, rfl, rfl, rfl, rfl, rfl, trivial⟩

set_option maxHeartbeats 4000000 in
theorem rx37_56   : FnF Try.prog 37 true [.agg [iA 0, iA 15, iA 3, iA 0, iA 0], .agg [iA 18, iA 18, iA 1, iA 0, iA 0]] (.agg [iA 0, iA 18, iA 3, iA 0, iA 0]) :=
  fn_e2 Try.func37 400 [.d, .d, .d, .d, .d, .d, .d, .d, .d, .d, .d, .d, .d, .d, .f true (iV 3), .d, .f true (iV 0), .d, .d, .d, .d, .v (iV (-18)), .f true (iV 18), .d, .f true (iV 3), .d, .d, .d, .d, .v (iV 0), .f true (.agg [iV 0, iV 18, iV 3, iV 0, iV 0]), .d] (ob := [_, _, (iV (IntKind.wrap .i64 (0 - 18)) : AV) = (iV (-18) : AV), _, _, ∀ e ∈ ([iV 0, iV 18] : List AV), idsOf e = [], (iV (bits .or .i64 0 0) : AV) = (iV 0 : AV), _, (0 : Int) = 0, (18 : Int) = 18, (3 : Int) = 3, (0 : Int) = 0, (0 : Int) = 0]) ⟨rx38_51, rx38_52, rfl, rx58_53, rx57_54, (by simp [idsOf, idsL]), rfl, rx35_55, rfl, rfl, rfl, rfl, rfl, trivial⟩

set_option maxHeartbeats 4000000 in
theorem rx36_57   : FnF Try.prog 36 true [.agg [iA 0, iA 81, iA 1, iA 0, iA 255], iA 21] (.bool true) :=
  fn_e2 Try.func36 400 [.d, .d, .d, .d, .d, .d, .d, .d, .d, .d, .d, .d, .d, .d, .d, .d, .v (iV 21), .d, .d, .v (iV 0), .d, .d, .d] (ob := [(iV (IntKind.wrap .i64 (21 - 0)) : AV) = (iV 21 : AV), (iV ((21 : Int).tmod 1) : AV) = (iV 0 : AV), (1 : Int) ≠ 0, (true : Bool) = true]) ⟨rfl, rfl, (by decide), rfl, trivial⟩

set_option maxHeartbeats 4000000 in
theorem rx35_58   : FnF Try.prog 35 true [iA 21, iA 21, iA 0, iA 0] (.agg [iA 21, iA 21, iA 1, iA 0, iA 0]) :=
  fn_e2 Try.func35 400 [.d, .d, .d, .d, .d, .d, .d, .d, .d, .d, .d, .d, .d] (ob := [(21 : Int) = 21, (21 : Int) = 21, (1 : Int) = 1, (0 : Int) = 0, (0 : Int) = 0]) ⟨rfl, rfl, rfl, rfl, rfl, trivial⟩

set_option maxHeartbeats 4000000 in
theorem rx38_59   : FnF Try.prog 38 true [.agg [iA 0, iA 18, iA 3, iA 0, iA 0]] (iA 3) :=
  fn_e2 Try.func38 400 [.d, .d, .d, .d, .d, .d, .d, .d, .d, .d, .d] (ob := [(3 : Int) = 3]) ⟨rfl, trivial⟩

set_option maxHeartbeats 4000000 in
theorem rx38_60   : FnF Try.prog 38 true [.agg [iA 21, iA 21, iA 1, iA 0, iA 0]] (iA 0) :=
  fn_e2 Try.func38 400 [.d, .d, .d, .d, .d, .d, .d, .d, .d] (ob := [(0 : Int) = 0]) ⟨rfl, trivial⟩

set_option maxHeartbeats 4000000 in
theorem rx58_61   : FnF Try.prog 58 true [iA (-21)] (iA 21) :=
  fn_e2 Try.func58 400 [.d, .d, .d, .v (iV 21), .d, .d] (ob := [(iV (IntKind.wrap .i64 (0 - (-21))) : AV) = (iV 21 : AV), (21 : Int) = 21]) ⟨rfl, rfl, trivial⟩

set_option maxHeartbeats 4000000 in
theorem rx57_62   : FnF Try.prog 57 true [iA 3, .list [iA 0, iA 21]] (iA 3) :=
  fn_e2 Try.func57 400 [.d, .d, .v (iV 2), .d, .d, .d, .d, .d, .d, .d, .d, .d, .v (iV 1), .d, .d, .d, .d, .d, .d, .d, .d, .d, .d, .d, .d, .v (iV 3), .d, .d, .d, .d, .d, .d, .d, .d, .v (iV 0), .d, .d, .d, .d, .d, .v (iV 2), .d, .d, .d, .d, .f true (iV 3), .d] (ob := [(iV (([iV 0, iV 21] : List AV).length : Int) : AV) = (iV 2 : AV), 0 ≤ (0 : Int), (iV (IntKind.wrap .i64 (0 + 1)) : AV) = (iV 1 : AV), 0 ≤ (1 : Int), (iV ((3 : Int).tmod 21) : AV) = (iV 3 : AV), (21 : Int) ≠ 0, (iV ((21 : Int).tmod 3) : AV) = (iV 0 : AV), (3 : Int) ≠ 0, (iV (IntKind.wrap .i64 (1 + 1)) : AV) = (iV 2 : AV), _, (3 : Int) = 3]) ⟨rfl, (by decide), rfl, (by decide), rfl, (by decide), rfl, (by decide), rfl, rx58_12, rfl, trivial⟩

set_option maxHeartbeats 4000000 in
theorem rx35_63   : FnF Try.prog 35 true [iA 0, iA 21, iA 3, iA 0] (.agg [iA 0, iA 21, iA 3, iA 0, iA 0]) :=
  fn_e2 Try.func35 400 [.d, .d, .d, .d, .d, .d, .d, .v (iV 21), .d, .v (iV 0), .v (iV 21), .d, .d, .d, .d, .d, .d, .d, .d, .d, .d, .f true (iV 0), .d, .d, .d] (ob := [(iV (IntKind.wrap .i64 (21 - 0)) : AV) = (iV 21 : AV), (iV ((21 : Int).tmod 3) : AV) = (iV 0 : AV), (3 : Int) ≠ 0, (iV (IntKind.wrap .i64 (21 - 0)) : AV) = (iV 21 : AV), _, (0 : Int) = 0, (21 : Int) = 21, (3 : Int) = 3, (0 : Int) = 0, (0 : Int) = 0]) ⟨rfl, rfl, (by decide), rfl, rx56_14, rfl, rfl, rfl, rfl, rfl, trivial⟩

set_option maxHeartbeats 4000000 in
theorem rx37_64   : FnF Try.prog 37 true [.agg [iA 0, iA 18, iA 3, iA 0, iA 0], .agg [iA 21, iA 21, iA 1, iA 0, iA 0]] (.agg [iA 0, iA 21, iA 3, iA 0, iA 0]) :=
  fn_e2 Try.func37 400 [.d, .d, .d, .d, .d, .d, .d, .d, .d, .d, .d, .d, .d, .d, .f true (iV 3), .d, .f true (iV 0), .d, .d, .d, .d, .v (iV (-21)), .f true (iV 21), .d, .f true (iV 3), .d, .d, .d, .d, .v (iV 0), .f true (.agg [iV 0, iV 21, iV 3, iV 0, iV 0]), .d] (ob := [_, _, (iV (IntKind.wrap .i64 (0 - 21)) : AV) = (iV (-21) : AV), _, _, ∀ e ∈ ([iV 0, iV 21] : List AV), idsOf e = [], (iV (bits .or .i64 0 0) : AV) = (iV 0 : AV), _, (0 : Int) = 0, (21 : Int) = 21, (3 : Int) = 3, (0 : Int) = 0, (0 : Int) = 0]) ⟨rx38_59, rx38_60, rfl, rx58_61, rx57_62, (by simp [idsOf, idsL]), rfl, rx35_63, rfl, rfl, rfl, rfl, rfl, trivial⟩

set_option maxHeartbeats 4000000 in
theorem rx36_65   : FnF Try.prog 36 true [.agg [iA 0, iA 81, iA 1, iA 0, iA 255], iA 24] (.bool true) :=
  fn_e2 Try.func36 400 [.d, .d, .d, .d, .d, .d, .d, .d, .d, .d, .d, .d, .d, .d, .d, .d, .v (iV 24), .d, .d, .v (iV 0), .d, .d, .d] (ob := [(iV (IntKind.wrap .i64 (24 - 0)) : AV) = (iV 24 : AV), (iV ((24 : Int).tmod 1) : AV) = (iV 0 : AV), (1 : Int) ≠ 0, (true : Bool) = true]) ⟨rfl, rfl, (by decide), rfl, trivial⟩

set_option maxHeartbeats 4000000 in
theorem rx35_66   : FnF Try.prog 35 true [iA 24, iA 24, iA 0, iA 0] (.agg [iA 24, iA 24, iA 1, iA 0, iA 0]) :=
  fn_e2 Try.func35 400 [.d, .d, .d, .d, .d, .d, .d, .d, .d, .d, .d, .d, .d] (ob := [(24 : Int) = 24, (24 : Int) = 24, (1 : Int) = 1, (0 : Int) = 0, (0 : Int) = 0]) ⟨rfl, rfl, rfl, rfl, rfl, trivial⟩

set_option maxHeartbeats 4000000 in
theorem rx38_67   : FnF Try.prog 38 true [.agg [iA 0, iA 21, iA 3, iA 0, iA 0]] (iA 3) :=
  fn_e2 Try.func38 400 [.d, .d, .d, .d, .d, .d, .d, .d, .d, .d, .d] (ob := [(3 : Int) = 3]) ⟨rfl, trivial⟩

set_option maxHeartbeats 4000000 in
theorem rx38_68   : FnF Try.prog 38 true [.agg [iA 24, iA 24, iA 1, iA 0, iA 0]] (iA 0) :=
  fn_e2 Try.func38 400 [.d, .d, .d, .d, .d, .d, .d, .d, .d] (ob := [(0 : Int) = 0]) ⟨rfl, trivial⟩

set_option maxHeartbeats 4000000 in
theorem rx58_69   : FnF Try.prog 58 true [iA (-24)] (iA 24) :=
  fn_e2 Try.func58 400 [.d, .d, .d, .v (iV 24), .d, .d] (ob := [(iV (IntKind.wrap .i64 (0 - (-24))) : AV) = (iV 24 : AV), (24 : Int) = 24]) ⟨rfl, rfl, trivial⟩

set_option maxHeartbeats 4000000 in
theorem rx57_70   : FnF Try.prog 57 true [iA 3, .list [iA 0, iA 24]] (iA 3) :=
  fn_e2 Try.func57 400 [.d, .d, .v (iV 2), .d, .d, .d, .d, .d, .d, .d, .d, .d, .v (iV 1), .d, .d, .d, .d, .d, .d, .d, .d, .d, .d, .d, .d, .v (iV 3), .d, .d, .d, .d, .d, .d, .d, .d, .v (iV 0), .d, .d, .d, .d, .d, .v (iV 2), .d, .d, .d, .d, .f true (iV 3), .d] (ob := [(iV (([iV 0, iV 24] : List AV).length : Int) : AV) = (iV 2 : AV), 0 ≤ (0 : Int), (iV (IntKind.wrap .i64 (0 + 1)) : AV) = (iV 1 : AV), 0 ≤ (1 : Int), (iV ((3 : Int).tmod 24) : AV) = (iV 3 : AV), (24 : Int) ≠ 0, (iV ((24 : Int).tmod 3) : AV) = (iV 0 : AV), (3 : Int) ≠ 0, (iV (IntKind.wrap .i64 (1 + 1)) : AV) = (iV 2 : AV), _, (3 : Int) = 3]) ⟨rfl, (by decide), rfl, (by decide), rfl, (by decide), rfl, (by decide), rfl, rx58_12, rfl, trivial⟩

set_option maxHeartbeats 4000000 in
theorem rx35_71   : FnF Try.prog 35 true [iA 0, iA 24, iA 3, iA 0] (.agg [iA 0, iA 24, iA 3, iA 0, iA 0]) :=
  fn_e2 Try.func35 400 [.d, .d, .d, .d, .d, .d, .d, .v (iV 24), .d, .v (iV 0), .v (iV 24), .d, .d, .d, .d, .d, .d, .d, .d, .d, .d, .f true (iV 0), .d, .d, .d] (ob := [(iV (IntKind.wrap .i64 (24 - 0)) : AV) = (iV 24 : AV), (iV ((24 : Int).tmod 3) : AV) = (iV 0 : AV), (3 : Int) ≠ 0, (iV (IntKind.wrap .i64 (24 - 0)) : AV) = (iV 24 : AV), _, (0 : Int) = 0, (24 : Int) = 24, (3 : Int) = 3, (0 : Int) = 0, (0 : Int) = 0]) ⟨rfl, rfl, (by decide), rfl, rx56_14, rfl, rfl, rfl, rfl, rfl, trivial⟩

set_option maxHeartbeats 4000000 in
theorem rx37_72   : FnF Try.prog 37 true [.agg [iA 0, iA 21, iA 3, iA 0, iA 0], .agg [iA 24, iA 24, iA 1, iA 0, iA 0]] (.agg [iA 0, iA 24, iA 3, iA 0, iA 0]) :=
  fn_e2 Try.func37 400 [.d, .d, .d, .d, .d, .d, .d, .d, .d, .d, .d, .d, .d, .d, .f true (iV 3), .d, .f true (iV 0), .d, .d, .d, .d, .v (iV (-24)), .f true (iV 24), .d, .f true (iV 3), .d, .d, .d, .d, .v (iV 0), .f true (.agg [iV 0, iV 24, iV 3, iV 0, iV 0]), .d] (ob := [_, _, (iV (IntKind.wrap .i64 (0 - 24)) : AV) = (iV (-24) : AV), _, _, ∀ e ∈ ([iV 0, iV 24] : List AV), idsOf e = [], (iV (bits .or .i64 0 0) : AV) = (iV 0 : AV), _, (0 : Int) = 0, (24 : Int) = 24, (3 : Int) = 3, (0 : Int) = 0, (0 : Int) = 0]) ⟨rx38_67, rx38_68, rfl, rx58_69, rx57_70, (by simp [idsOf, idsL]), rfl, rx35_71, rfl, rfl, rfl, rfl, rfl, trivial⟩

set_option maxHeartbeats 4000000 in
theorem rx36_73   : FnF Try.prog 36 true [.agg [iA 0, iA 81, iA 1, iA 0, iA 255], iA 27] (.bool true) :=
  fn_e2 Try.func36 400 [.d, .d, .d, .d, .d, .d, .d, .d, .d, .d, .d, .d, .d, .d, .d, .d, .v (iV 27), .d, .d, .v (iV 0), .d, .d, .d] (ob := [(iV (IntKind.wrap .i64 (27 - 0)) : AV) = (iV 27 : AV), (iV ((27 : Int).tmod 1) : AV) = (iV 0 : AV), (1 : Int) ≠ 0, (true : Bool) = true]) ⟨rfl, rfl, (by decide), rfl, trivial⟩

set_option maxHeartbeats 4000000 in
theorem rx35_74   : FnF Try.prog 35 true [iA 27, iA 27, iA 0, iA 0] (.agg [iA 27, iA 27, iA 1, iA 0, iA 0]) :=
  fn_e2 Try.func35 400 [.d, .d, .d, .d, .d, .d, .d, .d, .d, .d, .d, .d, .d] (ob := [(27 : Int) = 27, (27 : Int) = 27, (1 : Int) = 1, (0 : Int) = 0, (0 : Int) = 0]) ⟨rfl, rfl, rfl, rfl, rfl, trivial⟩

set_option maxHeartbeats 4000000 in
theorem rx38_75   : FnF Try.prog 38 true [.agg [iA 0, iA 24, iA 3, iA 0, iA 0]] (iA 3) :=
  fn_e2 Try.func38 400 [.d, .d, .d, .d, .d, .d, .d, .d, .d, .d, .d] (ob := [(3 : Int) = 3]) ⟨rfl, trivial⟩

set_option maxHeartbeats 4000000 in
theorem rx38_76   : FnF Try.prog 38 true [.agg [iA 27, iA 27, iA 1, iA 0, iA 0]] (iA 0) :=
  fn_e2 Try.func38 400 [.d, .d, .d, .d, .d, .d, .d, .d, .d] (ob := [(0 : Int) = 0]) ⟨rfl, trivial⟩

set_option maxHeartbeats 4000000 in
theorem rx58_77   : FnF Try.prog 58 true [iA (-27)] (iA 27) :=
  fn_e2 Try.func58 400 [.d, .d, .d, .v (iV 27), .d, .d] (ob := [(iV (IntKind.wrap .i64 (0 - (-27))) : AV) = (iV 27 : AV), (27 : Int) = 27]) ⟨rfl, rfl, trivial⟩

set_option maxHeartbeats 4000000 in
theorem rx57_78   : FnF Try.prog 57 true [iA 3, .list [iA 0, iA 27]] (iA 3) :=
  fn_e2 Try.func57 400 [.d, .d, .v (iV 2), .d, .d, .d, .d, .d, .d, .d, .d, .d, .v (iV 1), .d, .d, .d, .d, .d, .d, .d, .d, .d, .d, .d, .d, .v (iV 3), .d, .d, .d, .d, .d, .d, .d, .d, .v (iV 0), .d, .d, .d, .d, .d, .v (iV 2), .d, .d, .d, .d, .f true (iV 3), .d] (ob := [(iV (([iV 0, iV 27] : List AV).length : Int) : AV) = (iV 2 : AV), 0 ≤ (0 : Int), (iV (IntKind.wrap .i64 (0 + 1)) : AV) = (iV 1 : AV), 0 ≤ (1 : Int), (iV ((3 : Int).tmod 27) : AV) = (iV 3 : AV), (27 : Int) ≠ 0, (iV ((27 : Int).tmod 3) : AV) = (iV 0 : AV), (3 : Int) ≠ 0, (iV (IntKind.wrap .i64 (1 + 1)) : AV) = (iV 2 : AV), _, (3 : Int) = 3]) ⟨rfl, (by decide), rfl, (by decide), rfl, (by decide), rfl, (by decide), rfl, rx58_12, rfl, trivial⟩

set_option maxHeartbeats 4000000 in
theorem rx35_79   : FnF Try.prog 35 true [iA 0, iA 27, iA 3, iA 0] (.agg [iA 0, iA 27, iA 3, iA 0, iA 0]) :=
  fn_e2 Try.func35 400 [.d, .d, .d, .d, .d, .d, .d, .v (iV 27), .d, .v (iV 0), .v (iV 27), .d, .d, .d, .d, .d, .d, .d, .d, .d, .d, .f true (iV 0), .d, .d, .d] (ob := [(iV (IntKind.wrap .i64 (27 - 0)) : AV) = (iV 27 : AV), (iV ((27 : Int).tmod 3) : AV) = (iV 0 : AV), (3 : Int) ≠ 0, (iV (IntKind.wrap .i64 (27 - 0)) : AV) = (iV 27 : AV), _, (0 : Int) = 0, (27 : Int) = 27, (3 : Int) = 3, (0 : Int) = 0, (0 : Int) = 0]) ⟨rfl, rfl, (by decide), rfl, rx56_14, rfl, rfl, rfl, rfl, rfl, trivial⟩

set_option maxHeartbeats 4000000 in
theorem rx37_80   : FnF Try.prog 37 true [.agg [iA 0, iA 24, iA 3, iA 0, iA 0], .agg [iA 27, iA 27, iA 1, iA 0, iA 0]] (.agg [iA 0, iA 27, iA 3, iA 0, iA 0]) :=
  fn_e2 Try.func37 400 [.d, .d, .d, .d, .d, .d, .d, .d, .d, .d, .d, .d, .d, .d, .f true (iV 3), .d, .f true (iV 0), .d, .d, .d, .d, .v (iV (-27)), .f true (iV 27), .d, .f true (iV 3), .d, .d, .d, .d, .v (iV 0), .f true (.agg [iV 0, iV 27, iV 3, iV 0, iV 0]), .d] (ob := [_, _, (iV (IntKind.wrap .i64 (0 - 27)) : AV) = (iV (-27) : AV), _, _, ∀ e ∈ ([iV 0, iV 27] : List AV), idsOf e = [], (iV (bits .or .i64 0 0) : AV) = (iV 0 : AV), _, (0 : Int) = 0, (27 : Int) = 27, (3 : Int) = 3, (0 : Int) = 0, (0 : Int) = 0]) ⟨rx38_75, rx38_76, rfl, rx58_77, rx57_78, (by simp [idsOf, idsL]), rfl, rx35_79, rfl, rfl, rfl, rfl, rfl, trivial⟩

set_option maxHeartbeats 4000000 in
theorem rx36_81   : FnF Try.prog 36 true [.agg [iA 0, iA 81, iA 1, iA 0, iA 255], iA 30] (.bool true) :=
  fn_e2 Try.func36 400 [.d, .d, .d, .d, .d, .d, .d, .d, .d, .d, .d, .d, .d, .d, .d, .d, .v (iV 30), .d, .d, .v (iV 0), .d, .d, .d] (ob := [(iV (IntKind.wrap .i64 (30 - 0)) : AV) = (iV 30 : AV), (iV ((30 : Int).tmod 1) : AV) = (iV 0 : AV), (1 : Int) ≠ 0, (true : Bool) = true]) ⟨rfl, rfl, (by decide), rfl, trivial⟩

set_option maxHeartbeats 4000000 in
theorem rx35_82   : FnF Try.prog 35 true [iA 30, iA 30, iA 0, iA 0] (.agg [iA 30, iA 30, iA 1, iA 0, iA 0]) :=
  fn_e2 Try.func35 400 [.d, .d, .d, .d, .d, .d, .d, .d, .d, .d, .d, .d, .d] (ob := [(30 : Int) = 30, (30 : Int) = 30, (1 : Int) = 1, (0 : Int) = 0, (0 : Int) = 0]) ⟨rfl, rfl, rfl, rfl, rfl, trivial⟩

set_option maxHeartbeats 4000000 in
theorem rx38_83   : FnF Try.prog 38 true [.agg [iA 0, iA 27, iA 3, iA 0, iA 0]] (iA 3) :=
  fn_e2 Try.func38 400 [.d, .d, .d, .d, .d, .d, .d, .d, .d, .d, .d] (ob := [(3 : Int) = 3]) ⟨rfl, trivial⟩

set_option maxHeartbeats 4000000 in
theorem rx38_84   : FnF Try.prog 38 true [.agg [iA 30, iA 30, iA 1, iA 0, iA 0]] (iA 0) :=
  fn_e2 Try.func38 400 [.d, .d, .d, .d, .d, .d, .d, .d, .d] (ob := [(0 : Int) = 0]) ⟨rfl, trivial⟩

set_option maxHeartbeats 4000000 in
theorem rx58_85   : FnF Try.prog 58 true [iA (-30)] (iA 30) :=
  fn_e2 Try.func58 400 [.d, .d, .d, .v (iV 30), .d, .d] (ob := [(iV (IntKind.wrap .i64 (0 - (-30))) : AV) = (iV 30 : AV), (30 : Int) = 30]) ⟨rfl, rfl, trivial⟩

set_option maxHeartbeats 4000000 in
theorem rx57_86   : FnF Try.prog 57 true [iA 3, .list [iA 0, iA 30]] (iA 3) :=
  fn_e2 Try.func57 400 [.d, .d, .v (iV 2), .d, .d, .d, .d, .d, .d, .d, .d, .d, .v (iV 1), .d, .d, .d, .d, .d, .d, .d, .d, .d, .d, .d, .d, .v (iV 3), .d, .d, .d, .d, .d, .d, .d, .d, .v (iV 0), .d, .d, .d, .d, .d, .v (iV 2), .d, .d, .d, .d, .f true (iV 3), .d] (ob := [(iV (([iV 0, iV 30] : List AV).length : Int) : AV) = (iV 2 : AV), 0 ≤ (0 : Int), (iV (IntKind.wrap .i64 (0 + 1)) : AV) = (iV 1 : AV), 0 ≤ (1 : Int), (iV ((3 : Int).tmod 30) : AV) = (iV 3 : AV), (30 : Int) ≠ 0, (iV ((30 : Int).tmod 3) : AV) = (iV 0 : AV), (3 : Int) ≠ 0, (iV (IntKind.wrap .i64 (1 + 1)) : AV) = (iV 2 : AV), _, (3 : Int) = 3]) ⟨rfl, (by decide), rfl, (by decide), rfl, (by decide), rfl, (by decide), rfl, rx58_12, rfl, trivial⟩

set_option maxHeartbeats 4000000 in
theorem rx35_87   : FnF Try.prog 35 true [iA 0, iA 30, iA 3, iA 0] (.agg [iA 0, iA 30, iA 3, iA 0, iA 0]) :=
  fn_e2 Try.func35 400 [.d, .d, .d, .d, .d, .d, .d, .v (iV 30), .d, .v (iV 0), .v (iV 30), .d, .d, .d, .d, .d, .d, .d, .d, .d, .d, .f true (iV 0), .d, .d, .d] (ob := [(iV (IntKind.wrap .i64 (30 - 0)) : AV) = (iV 30 : AV), (iV ((30 : Int).tmod 3) : AV) = (iV 0 : AV), (3 : Int) ≠ 0, (iV (IntKind.wrap .i64 (30 - 0)) : AV) = (iV 30 : AV), _, (0 : Int) = 0, (30 : Int) = 30, (3 : Int) = 3, (0 : Int) = 0, (0 : Int) = 0]) ⟨rfl, rfl, (by decide), rfl, rx56_14, rfl, rfl, rfl, rfl, rfl, trivial⟩

set_option maxHeartbeats 4000000 in
theorem rx37_88   : FnF Try.prog 37 true [.agg [iA 0, iA 27, iA 3, iA 0, iA 0], .agg [iA 30, iA 30, iA 1, iA 0, iA 0]] (.agg [iA 0, iA 30, iA 3, iA 0, iA 0]) :=
  fn_e2 Try.func37 400 [.d, .d, .d, .d, .d, .d, .d, .d, .d, .d, .d, .d, .d, .d, .f true (iV 3), .d, .f true (iV 0), .d, .d, .d, .d, .v (iV (-30)), .f true (iV 30), .d, .f true (iV 3), .d, .d, .d, .d, .v (iV 0), .f true (.agg [iV 0, iV 30, iV 3, iV 0, iV 0]), .d] (ob := [_, _, (iV (IntKind.wrap .i64 (0 - 30)) : AV) = (iV (-30) : AV), _, _, ∀ e ∈ ([iV 0, iV 30] : List AV), idsOf e = [], (iV (bits .or .i64 0 0) : AV) = (iV 0 : AV), _, (0 : Int) = 0, (30 : Int) = 30, (3 : Int) = 3, (0 : Int) = 0, (0 : Int) = 0]) ⟨rx38_83, rx38_84, rfl, rx58_85, rx57_86, (by simp [idsOf, idsL]), rfl, rx35_87, rfl, rfl, rfl, rfl, rfl, trivial⟩

set_option maxHeartbeats 4000000 in
theorem rx36_89   : FnF Try.prog 36 true [.agg [iA 0, iA 81, iA 1, iA 0, iA 255], iA 33] (.bool true) :=
  fn_e2 Try.func36 400 [.d, .d, .d, .d, .d, .d, .d, .d, .d, .d, .d, .d, .d, .d, .d, .d, .v (iV 33), .d, .d, .v (iV 0), .d, .d, .d] (ob := [(iV (IntKind.wrap .i64 (33 - 0)) : AV) = (iV 33 : AV), (iV ((33 : Int).tmod 1) : AV) = (iV 0 : AV), (1 : Int) ≠ 0, (true : Bool) = true]) ⟨rfl, rfl, (by decide), rfl, trivial⟩

set_option maxHeartbeats 4000000 in
theorem rx35_90   : FnF Try.prog 35 true [iA 33, iA 33, iA 0, iA 0] (.agg [iA 33, iA 33, iA 1, iA 0, iA 0]) :=
  fn_e2 Try.func35 400 [.d, .d, .d, .d, .d, .d, .d, .d, .d, .d, .d, .d, .d] (ob := [(33 : Int) = 33, (33 : Int) = 33, (1 : Int) = 1, (0 : Int) = 0, (0 : Int) = 0]) ⟨rfl, rfl, rfl, rfl, rfl, trivial⟩

set_option maxHeartbeats 4000000 in
theorem rx38_91   : FnF Try.prog 38 true [.agg [iA 0, iA 30, iA 3, iA 0, iA 0]] (iA 3) :=
  fn_e2 Try.func38 400 [.d, .d, .d, .d, .d, .d, .d, .d, .d, .d, .d] (ob := [(3 : Int) = 3]) ⟨rfl, trivial⟩

set_option maxHeartbeats 4000000 in
theorem rx38_92   : FnF Try.prog 38 true [.agg [iA 33, iA 33, iA 1, iA 0, iA 0]] (iA 0) :=
  fn_e2 Try.func38 400 [.d, .d, .d, .d, .d, .d, .d, .d, .d] (ob := [(0 : Int) = 0]) ⟨rfl, trivial⟩

set_option maxHeartbeats 4000000 in
theorem rx58_93   : FnF Try.prog 58 true [iA (-33)] (iA 33) :=
  fn_e2 Try.func58 400 [.d, .d, .d, .v (iV 33), .d, .d] (ob := [(iV (IntKind.wrap .i64 (0 - (-33))) : AV) = (iV 33 : AV), (33 : Int) = 33]) ⟨rfl, rfl, trivial⟩

set_option maxHeartbeats 4000000 in
theorem rx57_94   : FnF Try.prog 57 true [iA 3, .list [iA 0, iA 33]] (iA 3) :=
  fn_e2 Try.func57 400 [.d, .d, .v (iV 2), .d, .d, .d, .d, .d, .d, .d, .d, .d, .v (iV 1), .d, .d, .d, .d, .d, .d, .d, .d, .d, .d, .d, .d, .v (iV 3), .d, .d, .d, .d, .d, .d, .d, .d, .v (iV 0), .d, .d, .d, .d, .d, .v (iV 2), .d, .d, .d, .d, .f true (iV 3), .d] (ob := [(iV (([iV 0, iV 33] : List AV).length : Int) : AV) = (iV 2 : AV), 0 ≤ (0 : Int), (iV (IntKind.wrap .i64 (0 + 1)) : AV) = (iV 1 : AV), 0 ≤ (1 : Int), (iV ((3 : Int).tmod 33) : AV) = (iV 3 : AV), (33 : Int) ≠ 0, (iV ((33 : Int).tmod 3) : AV) = (iV 0 : AV), (3 : Int) ≠ 0, (iV (IntKind.wrap .i64 (1 + 1)) : AV) = (iV 2 : AV), _, (3 : Int) = 3]) ⟨rfl, (by decide), rfl, (by decide), rfl, (by decide), rfl, (by decide), rfl, rx58_12, rfl, trivial⟩

set_option maxHeartbeats 4000000 in
theorem rx35_95   : FnF Try.prog 35 true [iA 0, iA 33, iA 3, iA 0] (.agg [iA 0, iA 33, iA 3, iA 0, iA 0]) :=
  fn_e2 Try.func35 400 [.d, .d, .d, .d, .d, .d, .d, .v (iV 33), .d, .v (iV 0), .v (iV 33), .d, .d, .d, .d, .d, .d, .d, .d, .d, .d, .f true (iV 0), .d, .d, .d] (ob := [(iV (IntKind.wrap .i64 (33 - 0)) : AV) = (iV 33 : AV), (iV ((33 : Int).tmod 3) : AV) = (iV 0 : AV), (3 : Int) ≠ 0, (iV (IntKind.wrap .i64 (33 - 0)) : AV) = (iV 33 : AV), _, (0 : Int) = 0, (33 : Int) = 33, (3 : Int) = 3, (0 : Int) = 0, (0 : Int) = 0]) ⟨rfl, rfl, (by decide), rfl, rx56_14, rfl, rfl, rfl, rfl, rfl, trivial⟩

set_option maxHeartbeats 4000000 in
theorem rx37_96   : FnF Try.prog 37 true [.agg [iA 0, iA 30, iA 3, iA 0, iA 0], .agg [iA 33, iA 33, iA 1, iA 0, iA 0]] (.agg [iA 0, iA 33, iA 3, iA 0, iA 0]) :=
  fn_e2 Try.func37 400 [.d, .d, .d, .d, .d, .d, .d, .d, .d, .d, .d, .d, .d, .d, .f true (iV 3), .d, .f true (iV 0), .d, .d, .d, .d, .v (iV (-33)), .f true (iV 33), .d, .f true (iV 3), .d, .d, .d, .d, .v (iV 0), .f true (.agg [iV 0, iV 33, iV 3, iV 0, iV 0]), .d] (ob := [_, _, (iV (IntKind.wrap .i64 (0 - 33)) : AV) = (iV (-33) : AV), _, _, ∀ e ∈ ([iV 0, iV 33] : List AV), idsOf e = [], (iV (bits .or .i64 0 0) : AV) = (iV 0 : AV), _, (0 : Int) = 0, (33 : Int) = 33, (3 : Int) = 3, (0 : Int) = 0, (0 : Int) = 0]) ⟨rx38_91, rx38_92, rfl, rx58_93, rx57_94, (by simp [idsOf, idsL]), rfl, rx35_95, rfl, rfl, rfl, rfl, rfl, trivial⟩

set_option maxHeartbeats 4000000 in
theorem rx36_97   : FnF Try.prog 36 true [.agg [iA 0, iA 81, iA 1, iA 0, iA 255], iA 36] (.bool true) :=
  fn_e2 Try.func36 400 [.d, .d, .d, .d, .d, .d, .d, .d, .d, .d, .d, .d, .d, .d, .d, .d, .v (iV 36), .d, .d, .v (iV 0), .d, .d, .d] (ob := [(iV (IntKind.wrap .i64 (36 - 0)) : AV) = (iV 36 : AV), (iV ((36 : Int).tmod 1) : AV) = (iV 0 : AV), (1 : Int) ≠ 0, (true : Bool) = true]) ⟨rfl, rfl, (by decide), rfl, trivial⟩

set_option maxHeartbeats 4000000 in
theorem rx35_98   : FnF Try.prog 35 true [iA 36, iA 36, iA 0, iA 0] (.agg [iA 36, iA 36, iA 1, iA 0, iA 0]) :=
  fn_e2 Try.func35 400 [.d, .d, .d, .d, .d, .d, .d, .d, .d, .d, .d, .d, .d] (ob := [(36 : Int) = 36, (36 : Int) = 36, (1 : Int) = 1, (0 : Int) = 0, (0 : Int) = 0]) ⟨rfl, rfl, rfl, rfl, rfl, trivial⟩

set_option maxHeartbeats 4000000 in
theorem rx38_99   : FnF Try.prog 38 true [.agg [iA 0, iA 33, iA 3, iA 0, iA 0]] (iA 3) :=
  fn_e2 Try.func38 400 [.d, .d, .d, .d, .d, .d, .d, .d, .d, .d, .d] (ob := [(3 : Int) = 3]) ⟨rfl, trivial⟩

set_option maxHeartbeats 4000000 in
theorem rx38_100   : FnF Try.prog 38 true [.agg [iA 36, iA 36, iA 1, iA 0, iA 0]] (iA 0) :=
  fn_e2 Try.func38 400 [.d, .d, .d, .d, .d, .d, .d, .d, .d] (ob := [(0 : Int) = 0]) ⟨rfl, trivial⟩

set_option maxHeartbeats 4000000 in
theorem rx58_101   : FnF Try.prog 58 true [iA (-36)] (iA 36) :=
  fn_e2 Try.func58 400 [.d, .d, .d, .v (iV 36), .d, .d] (ob := [(iV (IntKind.wrap .i64 (0 - (-36))) : AV) = (iV 36 : AV), (36 : Int) = 36]) ⟨rfl, rfl, trivial⟩

set_option maxHeartbeats 4000000 in
theorem rx57_102   : FnF Try.prog 57 true [iA 3, .list [iA 0, iA 36]] (iA 3) :=
  fn_e2 Try.func57 400 [.d, .d, .v (iV 2), .d, .d, .d, .d, .d, .d, .d, .d, .d, .v (iV 1), .d, .d, .d, .d, .d, .d, .d, .d, .d, .d, .d, .d, .v (iV 3), .d, .d, .d, .d, .d, .d, .d, .d, .v (iV 0), .d, .d, .d, .d, .d, .v (iV 2), .d, .d, .d, .d, .f true (iV 3), .d] (ob := [(iV (([iV 0, iV 36] : List AV).length : Int) : AV) = (iV 2 : AV), 0 ≤ (0 : Int), (iV (IntKind.wrap .i64 (0 + 1)) : AV) = (iV 1 : AV), 0 ≤ (1 : Int), (iV ((3 : Int).tmod 36) : AV) = (iV 3 : AV), (36 : Int) ≠ 0, (iV ((36 : Int).tmod 3) : AV) = (iV 0 : AV), (3 : Int) ≠ 0, (iV (IntKind.wrap .i64 (1 + 1)) : AV) = (iV 2 : AV), _, (3 : Int) = 3]) ⟨rfl, (by decide), rfl, (by decide), rfl, (by decide), rfl, (by decide), rfl, rx58_12, rfl, trivial⟩

set_option maxHeartbeats 4000000 in
theorem rx35_103   : FnF Try.prog 35 true [iA 0, iA 36, iA 3, iA 0] (.agg [iA 0, iA 36, iA 3, iA 0, iA 0]) :=
  fn_e2 Try.func35 400 [.d, .d, .d, .d, .d, .d, .d, .v (iV 36), .d, .v (iV 0), .v (iV 36), .d, .d, .d, .d, .d, .d, .d, .d, .d, .d, .f true (iV 0), .d, .d, .d] (ob := [(iV (IntKind.wrap .i64 (36 - 0)) : AV) = (iV 36 : AV), (iV ((36 : Int).tmod 3) : AV) = (iV 0 : AV), (3 : Int) ≠ 0, (iV (IntKind.wrap .i64 (36 - 0)) : AV) = (iV 36 : AV), _, (0 : Int) = 0, (36 : Int) = 36, (3 : Int) = 3, (0 : Int) = 0, (0 : Int) = 0]) ⟨rfl, rfl, (by decide), rfl, rx56_14, rfl, rfl, rfl, rfl, rfl, trivial⟩

set_option maxHeartbeats 4000000 in
theorem rx37_104   : FnF Try.prog 37 true [.agg [iA 0, iA 33, iA 3, iA 0, iA 0], .agg [iA 36, iA 36, iA 1, iA 0, iA 0]] (.agg [iA 0, iA 36, iA 3, iA 0, iA 0]) :=
  fn_e2 Try.func37 400 [.d, .d, .d, .d, .d, .d, .d, .d, .d, .d, .d, .d, .d, .d, .f true (iV 3), .d, .f true (iV 0), .d, .d, .d, .d, .v (iV (-36)), .f true (iV 36), .d, .f true (iV 3), .d, .d, .d, .d, .v (iV 0), .f true (.agg [iV 0, iV 36, iV 3, iV 0, iV 0]), .d] (ob := [_, _, (iV (IntKind.wrap .i64 (0 - 36)) : AV) = (iV (-36) : AV), _, _, ∀ e ∈ ([iV 0, iV 36] : List AV), idsOf e = [], (iV (bits .or .i64 0 0) : AV) = (iV 0 : AV), _, (0 : Int) = 0, (36 : Int) = 36, (3 : Int) = 3, (0 : Int) = 0, (0 : Int) = 0]) ⟨rx38_99, rx38_100, rfl, rx58_101, rx57_102, (by simp [idsOf, idsL]), rfl, rx35_103, rfl, rfl, rfl, rfl, rfl, trivial⟩

set_option maxHeartbeats 4000000 in
theorem rx36_105   : FnF Try.prog 36 true [.agg [iA 0, iA 81, iA 1, iA 0, iA 255], iA 39] (.bool true) :=
  fn_e2 Try.func36 400 [.d, .d, .d, .d, .d, .d, .d, .d, .d, .d, .d, .d, .d, .d, .d, .d, .v (iV 39), .d, .d, .v (iV 0), .d, .d, .d] (ob := [(iV (IntKind.wrap .i64 (39 - 0)) : AV) = (iV 39 : AV), (iV ((39 : Int).tmod 1) : AV) = (iV 0 : AV), (1 : Int) ≠ 0, (true : Bool) = true]) ⟨rfl, rfl, (by decide), rfl, trivial⟩

set_option maxHeartbeats 4000000 in
theorem rx35_106   : FnF Try.prog 35 true [iA 39, iA 39, iA 0, iA 0] (.agg [iA 39, iA 39, iA 1, iA 0, iA 0]) :=
  fn_e2 Try.func35 400 [.d, .d, .d, .d, .d, .d, .d, .d, .d, .d, .d, .d, .d] (ob := [(39 : Int) = 39, (39 : Int) = 39, (1 : Int) = 1, (0 : Int) = 0, (0 : Int) = 0]) ⟨rfl, rfl, rfl, rfl, rfl, trivial⟩

set_option maxHeartbeats 4000000 in
theorem rx38_107   : FnF Try.prog 38 true [.agg [iA 0, iA 36, iA 3, iA 0, iA 0]] (iA 3) :=
  fn_e2 Try.func38 400 [.d, .d, .d, .d, .d, .d, .d, .d, .d, .d, .d] (ob := [(3 : Int) = 3]) ⟨rfl, trivial⟩

set_option maxHeartbeats 4000000 in
theorem rx38_108   : FnF Try.prog 38 true [.agg [iA 39, iA 39, iA 1, iA 0, iA 0]] (iA 0) :=
  fn_e2 Try.func38 400 [.d, .d, .d, .d, .d, .d, .d, .d, .d] (ob := [(0 : Int) = 0]) ⟨rfl, trivial⟩

set_option maxHeartbeats 4000000 in
theorem rx58_109   : FnF Try.prog 58 true [iA (-39)] (iA 39) :=
  fn_e2 Try.func58 400 [.d, .d, .d, .v (iV 39), .d, .d] (ob := [(iV (IntKind.wrap .i64 (0 - (-39))) : AV) = (iV 39 : AV), (39 : Int) = 39]) ⟨rfl, rfl, trivial⟩

set_option maxHeartbeats 4000000 in
theorem rx57_110   : FnF Try.prog 57 true [iA 3, .list [iA 0, iA 39]] (iA 3) :=
  fn_e2 Try.func57 400 [.d, .d, .v (iV 2), .d, .d, .d, .d, .d, .d, .d, .d, .d, .v (iV 1), .d, .d, .d, .d, .d, .d, .d, .d, .d, .d, .d, .d, .v (iV 3), .d, .d, .d, .d, .d, .d, .d, .d, .v (iV 0), .d, .d, .d, .d, .d, .v (iV 2), .d, .d, .d, .d, .f true (iV 3), .d] (ob := [(iV (([iV 0, iV 39] : List AV).length : Int) : AV) = (iV 2 : AV), 0 ≤ (0 : Int), (iV (IntKind.wrap .i64 (0 + 1)) : AV) = (iV 1 : AV), 0 ≤ (1 : Int), (iV ((3 : Int).tmod 39) : AV) = (iV 3 : AV), (39 : Int) ≠ 0, (iV ((39 : Int).tmod 3) : AV) = (iV 0 : AV), (3 : Int) ≠ 0, (iV (IntKind.wrap .i64 (1 + 1)) : AV) = (iV 2 : AV), _, (3 : Int) = 3]) ⟨rfl, (by decide), rfl, (by decide), rfl, (by decide), rfl, (by decide), rfl, rx58_12, rfl, trivial⟩

set_option maxHeartbeats 4000000 in
theorem rx35_111   : FnF Try.prog 35 true [iA 0, iA 39, iA 3, iA 0] (.agg [iA 0, iA 39, iA 3, iA 0, iA 0]) :=
  fn_e2 Try.func35 400 [.d, .d, .d, .d, .d, .d, .d, .v (iV 39), .d, .v (iV 0), .v (iV 39), .d, .d, .d, .d, .d, .d, .d, .d, .d, .d, .f true (iV 0), .d, .d, .d] (ob := [(iV (IntKind.wrap .i64 (39 - 0)) : AV) = (iV 39 : AV), (iV ((39 : Int).tmod 3) : AV) = (iV 0 : AV), (3 : Int) ≠ 0, (iV (IntKind.wrap .i64 (39 - 0)) : AV) = (iV 39 : AV), _, (0 : Int) = 0, (39 : Int) = 39, (3 : Int) = 3, (0 : Int) = 0, (0 : Int) = 0]) ⟨rfl, rfl, (by decide), rfl, rx56_14, rfl, rfl, rfl, rfl, rfl, trivial⟩

set_option maxHeartbeats 4000000 in
theorem rx37_112   : FnF Try.prog 37 true [.agg [iA 0, iA 36, iA 3, iA 0, iA 0], .agg [iA 39, iA 39, iA 1, iA 0, iA 0]] (.agg [iA 0, iA 39, iA 3, iA 0, iA 0]) :=
  fn_e2 Try.func37 400 [.d, .d, .d, .d, .d, .d, .d, .d, .d, .d, .d, .d, .d, .d, .f true (iV 3), .d, .f true (iV 0), .d, .d, .d, .d, .v (iV (-39)), .f true (iV 39), .d, .f true (iV 3), .d, .d, .d, .d, .v (iV 0), .f true (.agg [iV 0, iV 39, iV 3, iV 0, iV 0]), .d] (ob := [_, _, (iV (IntKind.wrap .i64 (0 - 39)) : AV) = (iV (-39) : AV), _, _, ∀ e ∈ ([iV 0, iV 39] : List AV), idsOf e = [], (iV (bits .or .i64 0 0) : AV) = (iV 0 : AV), _, (0 : Int) = 0, (39 : Int) = 39, (3 : Int) = 3, (0 : Int) = 0, (0 : Int) = 0]) ⟨rx38_107, rx38_108, rfl, rx58_109, rx57_110, (by simp [idsOf, idsL]), rfl, rx35_111, rfl, rfl, rfl, rfl, rfl, trivial⟩

set_option maxHeartbeats 4000000 in
theorem rx36_113   : FnF Try.prog 36 true [.agg [iA 0, iA 81, iA 1, iA 0, iA 255], iA 42] (.bool true) :=
  fn_e2 Try.func36 400 [.d, .d, .d, .d, .d, .d, .d, .d, .d, .d, .d, .d, .d, .d, .d, .d, .v (iV 42), .d, .d, .v (iV 0), .d, .d, .d] (ob := [(iV (IntKind.wrap .i64 (42 - 0)) : AV) = (iV 42 : AV), (iV ((42 : Int).tmod 1) : AV) = (iV 0 : AV), (1 : Int) ≠ 0, (true : Bool) = true]) ⟨rfl, rfl, (by decide), rfl, trivial⟩

set_option maxHeartbeats 4000000 in
theorem rx35_114   : FnF Try.prog 35 true [iA 42, iA 42, iA 0, iA 0] (.agg [iA 42, iA 42, iA 1, iA 0, iA 0]) :=
  fn_e2 Try.func35 400 [.d, .d, .d, .d, .d, .d, .d, .d, .d, .d, .d, .d, .d] (ob := [(42 : Int) = 42, (42 : Int) = 42, (1 : Int) = 1, (0 : Int) = 0, (0 : Int) = 0]) ⟨rfl, rfl, rfl, rfl, rfl, trivial⟩

set_option maxHeartbeats 4000000 in
theorem rx38_115   : FnF Try.prog 38 true [.agg [iA 0, iA 39, iA 3, iA 0, iA 0]] (iA 3) :=
  fn_e2 Try.func38 400 [.d, .d, .d, .d, .d, .d, .d, .d, .d, .d, .d] (ob := [(3 : Int) = 3]) ⟨rfl, trivial⟩

set_option maxHeartbeats 4000000 in
theorem rx38_116   : FnF Try.prog 38 true [.agg [iA 42, iA 42, iA 1, iA 0, iA 0]] (iA 0) :=
  fn_e2 Try.func38 400 [.d, .d, .d, .d, .d, .d, .d, .d, .d] (ob := [(0 : Int) = 0]) ⟨rfl, trivial⟩

set_option maxHeartbeats 4000000 in
theorem rx58_117   : FnF Try.prog 58 true [iA (-42)] (iA 42) :=
  fn_e2 Try.func58 400 [.d, .d, .d, .v (iV 42), .d, .d] (ob := [(iV (IntKind.wrap .i64 (0 - (-42))) : AV) = (iV 42 : AV), (42 : Int) = 42]) ⟨rfl, rfl, trivial⟩

set_option maxHeartbeats 4000000 in
theorem rx57_118   : FnF Try.prog 57 true [iA 3, .list [iA 0, iA 42]] (iA 3) :=
  fn_e2 Try.func57 400 [.d, .d, .v (iV 2), .d, .d, .d, .d, .d, .d, .d, .d, .d, .v (iV 1), .d, .d, .d, .d, .d, .d, .d, .d, .d, .d, .d, .d, .v (iV 3), .d, .d, .d, .d, .d, .d, .d, .d, .v (iV 0), .d, .d, .d, .d, .d, .v (iV 2), .d, .d, .d, .d, .f true (iV 3), .d] (ob := [(iV (([iV 0, iV 42] : List AV).length : Int) : AV) = (iV 2 : AV), 0 ≤ (0 : Int), (iV (IntKind.wrap .i64 (0 + 1)) : AV) = (iV 1 : AV), 0 ≤ (1 : Int), (iV ((3 : Int).tmod 42) : AV) = (iV 3 : AV), (42 : Int) ≠ 0, (iV ((42 : Int).tmod 3) : AV) = (iV 0 : AV), (3 : Int) ≠ 0, (iV (IntKind.wrap .i64 (1 + 1)) : AV) = (iV 2 : AV), _, (3 : Int) = 3]) ⟨rfl, (by decide), rfl, (by decide), rfl, (by decide), rfl, (by decide), rfl, rx58_12, rfl, trivial⟩

set_option maxHeartbeats 4000000 in
theorem rx35_119   : FnF Try.prog 35 true [iA 0, iA 42, iA 3, iA 0] (.agg [iA 0, iA 42, iA 3, iA 0, iA 0]) :=
  fn_e2 Try.func35 400 [.d, .d, .d, .d, .d, .d, .d, .v (iV 42), .d, .v (iV 0), .v (iV 42), .d, .d, .d, .d, .d, .d, .d, .d, .d, .d, .f true (iV 0), .d, .d, .d] (ob := [(iV (IntKind.wrap .i64 (42 - 0)) : AV) = (iV 42 : AV), (iV ((42 : Int).tmod 3) : AV) = (iV 0 : AV), (3 : Int) ≠ 0, (iV (IntKind.wrap .i64 (42 - 0)) : AV) = (iV 42 : AV), _, (0 : Int) = 0, (42 : Int) = 42, (3 : Int) = 3, (0 : Int) = 0, (0 : Int) = 0]) ⟨rfl, rfl, (by decide), rfl, rx56_14, rfl, rfl, rfl, rfl, rfl, trivial⟩

set_option maxHeartbeats 4000000 in
theorem rx37_120   : FnF Try.prog 37 true [.agg [iA 0, iA 39, iA 3, iA 0, iA 0], .agg [iA 42, iA 42, iA 1, iA 0, iA 0]] (.agg [iA 0, iA 42, iA 3, iA 0, iA 0]) :=
  fn_e2 Try.func37 400 [.d, .d, .d, .d, .d, .d, .d, .d, .d, .d, .d, .d, .d, .d, .f true (iV 3), .d, .f true (iV 0), .d, .d, .d, .d, .v (iV (-42)), .f true (iV 42), .d, .f true (iV 3), .d, .d, .d, .d, .v (iV 0), .f true (.agg [iV 0, iV 42, iV 3, iV 0, iV 0]), .d] (ob := [_, _, (iV (IntKind.wrap .i64 (0 - 42)) : AV) = (iV (-42) : AV), _, _, ∀ e ∈ ([iV 0, iV 42] : List AV), idsOf e = [], (iV (bits .or .i64 0 0) : AV) = (iV 0 : AV), _, (0 : Int) = 0, (42 : Int) = 42, (3 : Int) = 3, (0 : Int) = 0, (0 : Int) = 0]) ⟨rx38_115, rx38_116, rfl, rx58_117, rx57_118, (by simp [idsOf, idsL]), rfl, rx35_119, rfl, rfl, rfl, rfl, rfl, trivial⟩

set_option maxHeartbeats 4000000 in
theorem rx36_121   : FnF Try.prog 36 true [.agg [iA 0, iA 81, iA 1, iA 0, iA 255], iA 45] (.bool true) :=
  fn_e2 Try.func36 400 [.d, .d, .d, .d, .d, .d, .d, .d, .d, .d, .d, .d, .d, .d, .d, .d, .v (iV 45), .d, .d, .v (iV 0), .d, .d, .d] (ob := [(iV (IntKind.wrap .i64 (45 - 0)) : AV) = (iV 45 : AV), (iV ((45 : Int).tmod 1) : AV) = (iV 0 : AV), (1 : Int) ≠ 0, (true : Bool) = true]) ⟨rfl, rfl, (by decide), rfl, trivial⟩

set_option maxHeartbeats 4000000 in
theorem rx35_122   : FnF Try.prog 35 true [iA 45, iA 45, iA 0, iA 0] (.agg [iA 45, iA 45, iA 1, iA 0, iA 0]) :=
  fn_e2 Try.func35 400 [.d, .d, .d, .d, .d, .d, .d, .d, .d, .d, .d, .d, .d] (ob := [(45 : Int) = 45, (45 : Int) = 45, (1 : Int) = 1, (0 : Int) = 0, (0 : Int) = 0]) ⟨rfl, rfl, rfl, rfl, rfl, trivial⟩

set_option maxHeartbeats 4000000 in
theorem rx38_123   : FnF Try.prog 38 true [.agg [iA 0, iA 42, iA 3, iA 0, iA 0]] (iA 3) :=
  fn_e2 Try.func38 400 [.d, .d, .d, .d, .d, .d, .d, .d, .d, .d, .d] (ob := [(3 : Int) = 3]) ⟨rfl, trivial⟩

set_option maxHeartbeats 4000000 in
theorem rx38_124   : FnF Try.prog 38 true [.agg [iA 45, iA 45, iA 1, iA 0, iA 0]] (iA 0) :=
  fn_e2 Try.func38 400 [.d, .d, .d, .d, .d, .d, .d, .d, .d] (ob := [(0 : Int) = 0]) ⟨rfl, trivial⟩

set_option maxHeartbeats 4000000 in
theorem rx58_125   : FnF Try.prog 58 true [iA (-45)] (iA 45) :=
  fn_e2 Try.func58 400 [.d, .d, .d, .v (iV 45), .d, .d] (ob := [(iV (IntKind.wrap .i64 (0 - (-45))) : AV) = (iV 45 : AV), (45 : Int) = 45]) ⟨rfl, rfl, trivial⟩

set_option maxHeartbeats 4000000 in
theorem rx57_126   : FnF Try.prog 57 true [iA 3, .list [iA 0, iA 45]] (iA 3) :=
  fn_e2 Try.func57 400 [.d, .d, .v (iV 2), .d, .d, .d, .d, .d, .d, .d, .d, .d, .v (iV 1), .d, .d, .d, .d, .d, .d, .d, .d, .d, .d, .d, .d, .v (iV 3), .d, .d, .d, .d, .d, .d, .d, .d, .v (iV 0), .d, .d, .d, .d, .d, .v (iV 2), .d, .d, .d, .d, .f true (iV 3), .d] (ob := [(iV (([iV 0, iV 45] : List AV).length : Int) : AV) = (iV 2 : AV), 0 ≤ (0 : Int), (iV (IntKind.wrap .i64 (0 + 1)) : AV) = (iV 1 : AV), 0 ≤ (1 : Int), (iV ((3 : Int).tmod 45) : AV) = (iV 3 : AV), (45 : Int) ≠ 0, (iV ((45 : Int).tmod 3) : AV) = (iV 0 : AV), (3 : Int) ≠ 0, (iV (IntKind.wrap .i64 (1 + 1)) : AV) = (iV 2 : AV), _, (3 : Int) = 3]) ⟨rfl, (by decide), rfl, (by decide), rfl, (by decide), rfl, (by decide), rfl, rx58_12, rfl, trivial⟩

set_option maxHeartbeats 4000000 in
theorem rx35_127   : FnF Try.prog 35 true [iA 0, iA 45, iA 3, iA 0] (.agg [iA 0, iA 45, iA 3, iA 0, iA 0]) :=
  fn_e2 Try.func35 400 [.d, .d, .d, .d, .d, .d, .d, .v (iV 45), .d, .v (iV 0), .v (iV 45), .d, .d, .d, .d, .d, .d, .d, .d, .d, .d, .f true (iV 0), .d, .d, .d] (ob := [(iV (IntKind.wrap .i64 (45 - 0)) : AV) = (iV 45 : AV), (iV ((45 : Int).tmod 3) : AV) = (iV 0 : AV), (3 : Int) ≠ 0, (iV (IntKind.wrap .i64 (45 - 0)) : AV) = (iV 45 : AV), _, (0 : Int) = 0, (45 : Int) = 45, (3 : Int) = 3, (0 : Int) = 0, (0 : Int) = 0]) ⟨rfl, rfl, (by decide), rfl, rx56_14, rfl, rfl, rfl, rfl, rfl, trivial⟩

set_option maxHeartbeats 4000000 in
theorem rx37_128   : FnF Try.prog 37 true [.agg [iA 0, iA 42, iA 3, iA 0, iA 0], .agg [iA 45, iA 45, iA 1, iA 0, iA 0]] (.agg [iA 0, iA 45, iA 3, iA 0, iA 0]) :=
  fn_e2 Try.func37 400 [.d, .d, .d, .d, .d, .d, .d, .d, .d, .d, .d, .d, .d, .d, .f true (iV 3), .d, .f true (iV 0), .d, .d, .d, .d, .v (iV (-45)), .f true (iV 45), .d, .f true (iV 3), .d, .d, .d, .d, .v (iV 0), .f true (.agg [iV 0, iV 45, iV 3, iV 0, iV 0]), .d] (ob := [_, _, (iV (IntKind.wrap .i64 (0 - 45)) : AV) = (iV (-45) : AV), _, _, ∀ e ∈ ([iV 0, iV 45] : List AV), idsOf e = [], (iV (bits .or .i64 0 0) : AV) = (iV 0 : AV), _, (0 : Int) = 0, (45 : Int) = 45, (3 : Int) = 3, (0 : Int) = 0, (0 : Int) = 0]) ⟨rx38_123, rx38_124, rfl, rx58_125, rx57_126, (by simp [idsOf, idsL]), rfl, rx35_127, rfl, rfl, rfl, rfl, rfl, trivial⟩

set_option maxHeartbeats 4000000 in
theorem rx36_129   : FnF Try.prog 36 true [.agg [iA 0, iA 81, iA 1, iA 0, iA 255], iA 48] (.bool true) :=
  fn_e2 Try.func36 400 [.d, .d, .d, .d, .d, .d, .d, .d, .d, .d, .d, .d, .d, .d, .d, .d, .v (iV 48), .d, .d, .v (iV 0), .d, .d, .d] (ob := [(iV (IntKind.wrap .i64 (48 - 0)) : AV) = (iV 48 : AV), (iV ((48 : Int).tmod 1) : AV) = (iV 0 : AV), (1 : Int) ≠ 0, (true : Bool) = true]) ⟨rfl, rfl, (by decide), rfl, trivial⟩

set_option maxHeartbeats 4000000 in
theorem rx35_130   : FnF Try.prog 35 true [iA 48, iA 48, iA 0, iA 0] (.agg [iA 48, iA 48, iA 1, iA 0, iA 0]) :=
  fn_e2 Try.func35 400 [.d, .d, .d, .d, .d, .d, .d, .d, .d, .d, .d, .d, .d] (ob := [(48 : Int) = 48, (48 : Int) = 48, (1 : Int) = 1, (0 : Int) = 0, (0 : Int) = 0]) ⟨rfl, rfl, rfl, rfl, rfl, trivial⟩

set_option maxHeartbeats 4000000 in
theorem rx38_131   : FnF Try.prog 38 true [.agg [iA 0, iA 45, iA 3, iA 0, iA 0]] (iA 3) :=
  fn_e2 Try.func38 400 [.d, .d, .d, .d, .d, .d, .d, .d, .d, .d, .d] (ob := [(3 : Int) = 3]) ⟨rfl, trivial⟩

set_option maxHeartbeats 4000000 in
theorem rx38_132   : FnF Try.prog 38 true [.agg [iA 48, iA 48, iA 1, iA 0, iA 0]] (iA 0) :=
  fn_e2 Try.func38 400 [.d, .d, .d, .d, .d, .d, .d, .d, .d] (ob := [(0 : Int) = 0]) ⟨rfl, trivial⟩

set_option maxHeartbeats 4000000 in
theorem rx58_133   : FnF Try.prog 58 true [iA (-48)] (iA 48) :=
  fn_e2 Try.func58 400 [.d, .d, .d, .v (iV 48), .d, .d] (ob := [(iV (IntKind.wrap .i64 (0 - (-48))) : AV) = (iV 48 : AV), (48 : Int) = 48]) ⟨rfl, rfl, trivial⟩

set_option maxHeartbeats 4000000 in
theorem rx57_134   : FnF Try.prog 57 true [iA 3, .list [iA 0, iA 48]] (iA 3) :=
  fn_e2 Try.func57 400 [.d, .d, .v (iV 2), .d, .d, .d, .d, .d, .d, .d, .d, .d, .v (iV 1), .d, .d, .d, .d, .d, .d, .d, .d, .d, .d, .d, .d, .v (iV 3), .d, .d, .d, .d, .d, .d, .d, .d, .v (iV 0), .d, .d, .d, .d, .d, .v (iV 2), .d, .d, .d, .d, .f true (iV 3), .d] (ob := [(iV (([iV 0, iV 48] : List AV).length : Int) : AV) = (iV 2 : AV), 0 ≤ (0 : Int), (iV (IntKind.wrap .i64 (0 + 1)) : AV) = (iV 1 : AV), 0 ≤ (1 : Int), (iV ((3 : Int).tmod 48) : AV) = (iV 3 : AV), (48 : Int) ≠ 0, (iV ((48 : Int).tmod 3) : AV) = (iV 0 : AV), (3 : Int) ≠ 0, (iV (IntKind.wrap .i64 (1 + 1)) : AV) = (iV 2 : AV), _, (3 : Int) = 3]) ⟨rfl, (by decide), rfl, (by decide), rfl, (by decide), rfl, (by decide), rfl, rx58_12, rfl, trivial⟩

set_option maxHeartbeats 4000000 in
theorem rx35_135   : FnF Try.prog 35 true [iA 0, iA 48, iA 3, iA 0] (.agg [iA 0, iA 48, iA 3, iA 0, iA 0]) :=
  fn_e2 Try.func35 400 [.d, .d, .d, .d, .d, .d, .d, .v (iV 48), .d, .v (iV 0), .v (iV 48), .d, .d, .d, .d, .d, .d, .d, .d, .d, .d, .f true (iV 0), .d, .d, .d] (ob := [(iV (IntKind.wrap .i64 (48 - 0)) : AV) = (iV 48 : AV), (iV ((48 : Int).tmod 3) : AV) = (iV 0 : AV), (3 : Int) ≠ 0, (iV (IntKind.wrap .i64 (48 - 0)) : AV) = (iV 48 : AV), _, (0 : Int) = 0, (48 : Int) = 48, (3 : Int) = 3, (0 : Int) = 0, (0 : Int) = 0]) ⟨rfl, rfl, (by decide), rfl, rx56_14, rfl, rfl, rfl, rfl, rfl, trivial⟩

set_option maxHeartbeats 4000000 in
theorem rx37_136   : FnF Try.prog 37 true [.agg [iA 0, iA 45, iA 3, iA 0, iA 0], .agg [iA 48, iA 48, iA 1, iA 0, iA 0]] (.agg [iA 0, iA 48, iA 3, iA 0, iA 0]) :=
  fn_e2 Try.func37 400 [.d, .d, .d, .d, .d, .d, .d, .d, .d, .d, .d, .d, .d, .d, .f true (iV 3), .d, .f true (iV 0), .d, .d, .d, .d, .v (iV (-48)), .f true (iV 48), .d, .f true (iV 3), .d, .d, .d, .d, .v (iV 0), .f true (.agg [iV 0, iV 48, iV 3, iV 0, iV 0]), .d] (ob := [_, _, (iV (IntKind.wrap .i64 (0 - 48)) : AV) = (iV (-48) : AV), _, _, ∀ e ∈ ([iV 0, iV 48] : List AV), idsOf e = [], (iV (bits .or .i64 0 0) : AV) = (iV 0 : AV), _, (0 : Int) = 0, (48 : Int) = 48, (3 : Int) = 3, (0 : Int) = 0, (0 : Int) = 0]) ⟨rx38_131, rx38_132, rfl, rx58_133, rx57_134, (by simp [idsOf, idsL]), rfl, rx35_135, rfl, rfl, rfl, rfl, rfl, trivial⟩

set_option maxHeartbeats 4000000 in
theorem rx36_137   : FnF Try.prog 36 true [.agg [iA 0, iA 81, iA 1, iA 0, iA 255], iA 51] (.bool true) :=
  fn_e2 Try.func36 400 [.d, .d, .d, .d, .d, .d, .d, .d, .d, .d, .d, .d, .d, .d, .d, .d, .v (iV 51), .d, .d, .v (iV 0), .d, .d, .d] (ob := [(iV (IntKind.wrap .i64 (51 - 0)) : AV) = (iV 51 : AV), (iV ((51 : Int).tmod 1) : AV) = (iV 0 : AV), (1 : Int) ≠ 0, (true : Bool) = true]) ⟨rfl, rfl, (by decide), rfl, trivial⟩

set_option maxHeartbeats 4000000 in
theorem rx35_138   : FnF Try.prog 35 true [iA 51, iA 51, iA 0, iA 0] (.agg [iA 51, iA 51, iA 1, iA 0, iA 0]) :=
  fn_e2 Try.func35 400 [.d, .d, .d, .d, .d, .d, .d, .d, .d, .d, .d, .d, .d] (ob := [(51 : Int) = 51, (51 : Int) = 51, (1 : Int) = 1, (0 : Int) = 0, (0 : Int) = 0]) ⟨rfl, rfl, rfl, rfl, rfl, trivial⟩

set_option maxHeartbeats 4000000 in
theorem rx38_139   : FnF Try.prog 38 true [.agg [iA 0, iA 48, iA 3, iA 0, iA 0]] (iA 3) :=
  fn_e2 Try.func38 400 [.d, .d, .d, .d, .d, .d, .d, .d, .d, .d, .d] (ob := [(3 : Int) = 3]) ⟨rfl, trivial⟩

set_option maxHeartbeats 4000000 in
theorem rx38_140   : FnF Try.prog 38 true [.agg [iA 51, iA 51, iA 1, iA 0, iA 0]] (iA 0) :=
  fn_e2 Try.func38 400 [.d, .d, .d, .d, .d, .d, .d, .d, .d] (ob := [(0 : Int) = 0]) ⟨rfl, trivial⟩

set_option maxHeartbeats 4000000 in
theorem rx58_141   : FnF Try.prog 58 true [iA (-51)] (iA 51) :=
  fn_e2 Try.func58 400 [.d, .d, .d, .v (iV 51), .d, .d] (ob := [(iV (IntKind.wrap .i64 (0 - (-51))) : AV) = (iV 51 : AV), (51 : Int) = 51]) ⟨rfl, rfl, trivial⟩

set_option maxHeartbeats 4000000 in
theorem rx57_142   : FnF Try.prog 57 true [iA 3, .list [iA 0, iA 51]] (iA 3) :=
  fn_e2 Try.func57 400 [.d, .d, .v (iV 2), .d, .d, .d, .d, .d, .d, .d, .d, .d, .v (iV 1), .d, .d, .d, .d, .d, .d, .d, .d, .d, .d, .d, .d, .v (iV 3), .d, .d, .d, .d, .d, .d, .d, .d, .v (iV 0), .d, .d, .d, .d, .d, .v (iV 2), .d, .d, .d, .d, .f true (iV 3), .d] (ob := [(iV (([iV 0, iV 51] : List AV).length : Int) : AV) = (iV 2 : AV), 0 ≤ (0 : Int), (iV (IntKind.wrap .i64 (0 + 1)) : AV) = (iV 1 : AV), 0 ≤ (1 : Int), (iV ((3 : Int).tmod 51) : AV) = (iV 3 : AV), (51 : Int) ≠ 0, (iV ((51 : Int).tmod 3) : AV) = (iV 0 : AV), (3 : Int) ≠ 0, (iV (IntKind.wrap .i64 (1 + 1)) : AV) = (iV 2 : AV), _, (3 : Int) = 3]) ⟨rfl, (by decide), rfl, (by decide), rfl, (by decide), rfl, (by decide), rfl, rx58_12, rfl, trivial⟩

set_option maxHeartbeats 4000000 in
theorem rx35_143   : FnF Try.prog 35 true [iA 0, iA 51, iA 3, iA 0] (.agg [iA 0, iA 51, iA 3, iA 0, iA 0]) :=
  fn_e2 Try.func35 400 [.d, .d, .d, .d, .d, .d, .d, .v (iV 51), .d, .v (iV 0), .v (iV 51), .d, .d, .d, .d, .d, .d, .d, .d, .d, .d, .f true (iV 0), .d, .d, .d] (ob := [(iV (IntKind.wrap .i64 (51 - 0)) : AV) = (iV 51 : AV), (iV ((51 : Int).tmod 3) : AV) = (iV 0 : AV), (3 : Int) ≠ 0, (iV (IntKind.wrap .i64 (51 - 0)) : AV) = (iV 51 : AV), _, (0 : Int) = 0, (51 : Int) = 51, (3 : Int) = 3, (0 : Int) = 0, (0 : Int) = 0]) ⟨rfl, rfl, (by decide), rfl, rx56_14, rfl, rfl, rfl, rfl, rfl, trivial⟩

set_option maxHeartbeats 4000000 in
theorem rx37_144   : FnF Try.prog 37 true [.agg [iA 0, iA 48, iA 3, iA 0, iA 0], .agg [iA 51, iA 51, iA 1, iA 0, iA 0]] (.agg [iA 0, iA 51, iA 3, iA 0, iA 0]) :=
  fn_e2 Try.func37 400 [.d, .d, .d, .d, .d, .d, .d, .d, .d, .d, .d, .d, .d, .d, .f true (iV 3), .d, .f true (iV 0), .d, .d, .d, .d, .v (iV (-51)), .f true (iV 51), .d, .f true (iV 3), .d, .d, .d, .d, .v (iV 0), .f true (.agg [iV 0, iV 51, iV 3, iV 0, iV 0]), .d] (ob := [_, _, (iV (IntKind.wrap .i64 (0 - 51)) : AV) = (iV (-51) : AV), _, _, ∀ e ∈ ([iV 0, iV 51] : List AV), idsOf e = [], (iV (bits .or .i64 0 0) : AV) = (iV 0 : AV), _, (0 : Int) = 0, (51 : Int) = 51, (3 : Int) = 3, (0 : Int) = 0, (0 : Int) = 0]) ⟨rx38_139, rx38_140, rfl, rx58_141, rx57_142, (by simp [idsOf, idsL]), rfl, rx35_143, rfl, rfl, rfl, rfl, rfl, trivial⟩

set_option maxHeartbeats 4000000 in
theorem rx36_145   : FnF Try.prog 36 true [.agg [iA 0, iA 81, iA 1, iA 0, iA 255], iA 54] (.bool true) :=
  fn_e2 Try.func36 400 [.d, .d, .d, .d, .d, .d, .d, .d, .d, .d, .d, .d, .d, .d, .d, .d, .v (iV 54), .d, .d, .v (iV 0), .d, .d, .d] (ob := [(iV (IntKind.wrap .i64 (54 - 0)) : AV) = (iV 54 : AV), (iV ((54 : Int).tmod 1) : AV) = (iV 0 : AV), (1 : Int) ≠ 0, (true : Bool) = true]) ⟨rfl, rfl, (by decide), rfl, trivial⟩

set_option maxHeartbeats 4000000 in
theorem rx35_146   : FnF Try.prog 35 true [iA 54, iA 54, iA 0, iA 0] (.agg [iA 54, iA 54, iA 1, iA 0, iA 0]) :=
  fn_e2 Try.func35 400 [.d, .d, .d, .d, .d, .d, .d, .d, .d, .d, .d, .d, .d] (ob := [(54 : Int) = 54, (54 : Int) = 54, (1 : Int) = 1, (0 : Int) = 0, (0 : Int) = 0]) ⟨rfl, rfl, rfl, rfl, rfl, trivial⟩

set_option maxHeartbeats 4000000 in
theorem rx38_147   : FnF Try.prog 38 true [.agg [iA 0, iA 51, iA 3, iA 0, iA 0]] (iA 3) :=
  fn_e2 Try.func38 400 [.d, .d, .d, .d, .d, .d, .d, .d, .d, .d, .d] (ob := [(3 : Int) = 3]) ⟨rfl, trivial⟩

set_option maxHeartbeats 4000000 in
theorem rx38_148   : FnF Try.prog 38 true [.agg [iA 54, iA 54, iA 1, iA 0, iA 0]] (iA 0) :=
  fn_e2 Try.func38 400 [.d, .d, .d, .d, .d, .d, .d, .d, .d] (ob := [(0 : Int) = 0]) ⟨rfl, trivial⟩

set_option maxHeartbeats 4000000 in
theorem rx58_149   : FnF Try.prog 58 true [iA (-54)] (iA 54) :=
  fn_e2 Try.func58 400 [.d, .d, .d, .v (iV 54), .d, .d] (ob := [(iV (IntKind.wrap .i64 (0 - (-54))) : AV) = (iV 54 : AV), (54 : Int) = 54]) ⟨rfl, rfl, trivial⟩

set_option maxHeartbeats 4000000 in
theorem rx57_150   : FnF Try.prog 57 true [iA 3, .list [iA 0, iA 54]] (iA 3) :=
  fn_e2 Try.func57 400 [.d, .d, .v (iV 2), .d, .d, .d, .d, .d, .d, .d, .d, .d, .v (iV 1), .d, .d, .d, .d, .d, .d, .d, .d, .d, .d, .d, .d, .v (iV 3), .d, .d, .d, .d, .d, .d, .d, .d, .v (iV 0), .d, .d, .d, .d, .d, .v (iV 2), .d, .d, .d, .d, .f true (iV 3), .d] (ob := [(iV (([iV 0, iV 54] : List AV).length : Int) : AV) = (iV 2 : AV), 0 ≤ (0 : Int), (iV (IntKind.wrap .i64 (0 + 1)) : AV) = (iV 1 : AV), 0 ≤ (1 : Int), (iV ((3 : Int).tmod 54) : AV) = (iV 3 : AV), (54 : Int) ≠ 0, (iV ((54 : Int).tmod 3) : AV) = (iV 0 : AV), (3 : Int) ≠ 0, (iV (IntKind.wrap .i64 (1 + 1)) : AV) = (iV 2 : AV), _, (3 : Int) = 3]) ⟨rfl, (by decide), rfl, (by decide), rfl, (by decide), rfl, (by decide), rfl, rx58_12, rfl, trivial⟩

set_option maxHeartbeats 4000000 in
theorem rx35_151   : FnF Try.prog 35 true [iA 0, iA 54, iA 3, iA 0] (.agg [iA 0, iA 54, iA 3, iA 0, iA 0]) :=
  fn_e2 Try.func35 400 [.d, .d, .d, .d, .d, .d, .d, .v (iV 54), .d, .v (iV 0), .v (iV 54), .d, .d, .d, .d, .d, .d, .d, .d, .d, .d, .f true (iV 0), .d, .d, .d] (ob := [(iV (IntKind.wrap .i64 (54 - 0)) : AV) = (iV 54 : AV), (iV ((54 : Int).tmod 3) : AV) = (iV 0 : AV), (3 : Int) ≠ 0, (iV (IntKind.wrap .i64 (54 - 0)) : AV) = (iV 54 : AV), _, (0 : Int) = 0, (54 : Int) = 54, (3 : Int) = 3, (0 : Int) = 0, (0 : Int) = 0]) ⟨rfl, rfl, (by decide), rfl, rx56_14, rfl, rfl, rfl, rfl, rfl, trivial⟩

set_option maxHeartbeats 4000000 in
theorem rx37_152   : FnF Try.prog 37 true [.agg [iA 0, iA 51, iA 3, iA 0, iA 0], .agg [iA 54, iA 54, iA 1, iA 0, iA 0]] (.agg [iA 0, iA 54, iA 3, iA 0, iA 0]) :=
  fn_e2 Try.func37 400 [.d, .d, .d, .d, .d, .d, .d, .d, .d, .d, .d, .d, .d, .d, .f true (iV 3), .d, .f true (iV 0), .d, .d, .d, .d, .v (iV (-54)), .f true (iV 54), .d, .f true (iV 3), .d, .d, .d, .d, .v (iV 0), .f true (.agg [iV 0, iV 54, iV 3, iV 0, iV 0]), .d] (ob := [_, _, (iV (IntKind.wrap .i64 (0 - 54)) : AV) = (iV (-54) : AV), _, _, ∀ e ∈ ([iV 0, iV 54] : List AV), idsOf e = [], (iV (bits .or .i64 0 0) : AV) = (iV 0 : AV), _, (0 : Int) = 0, (54 : Int) = 54, (3 : Int) = 3, (0 : Int) = 0, (0 : Int) = 0]) ⟨rx38_147, rx38_148, rfl, rx58_149, rx57_150, (by simp [idsOf, idsL]), rfl, rx35_151, rfl, rfl, rfl, rfl, rfl, trivial⟩

set_option maxHeartbeats 4000000 in
theorem rx36_153   : FnF Try.prog 36 true [.agg [iA 0, iA 81, iA 1, iA 0, iA 255], iA 57] (.bool true) :=
  fn_e2 Try.func36 400 [.d, .d, .d, .d, .d, .d, .d, .d, .d, .d, .d, .d, .d, .d, .d, .d, .v (iV 57), .d, .d, .v (iV 0), .d, .d, .d] (ob := [(iV (IntKind.wrap .i64 (57 - 0)) : AV) = (iV 57 : AV), (iV ((57 : Int).tmod 1) : AV) = (iV 0 : AV), (1 : Int) ≠ 0, (true : Bool) = true]) ⟨rfl, rfl, (by decide), rfl, trivial⟩

set_option maxHeartbeats 4000000 in
theorem rx35_154   : FnF Try.prog 35 true [iA 57, iA 57, iA 0, iA 0] (.agg [iA 57, iA 57, iA 1, iA 0, iA 0]) :=
  fn_e2 Try.func35 400 [.d, .d, .d, .d, .d, .d, .d, .d, .d, .d, .d, .d, .d] (ob := [(57 : Int) = 57, (57 : Int) = 57, (1 : Int) = 1, (0 : Int) = 0, (0 : Int) = 0]) ⟨rfl, rfl, rfl, rfl, rfl, trivial⟩

set_option maxHeartbeats 4000000 in
theorem rx38_155   : FnF Try.prog 38 true [.agg [iA 0, iA 54, iA 3, iA 0, iA 0]] (iA 3) :=
  fn_e2 Try.func38 400 [.d, .d, .d, .d, .d, .d, .d, .d, .d, .d, .d] (ob := [(3 : Int) = 3]) ⟨rfl, trivial⟩

set_option maxHeartbeats 4000000 in
theorem rx38_156   : FnF Try.prog 38 true [.agg [iA 57, iA 57, iA 1, iA 0, iA 0]] (iA 0) :=
  fn_e2 Try.func38 400 [.d, .d, .d, .d, .d, .d, .d, .d, .d] (ob := [(0 : Int) = 0]) ⟨rfl, trivial⟩

set_option maxHeartbeats 4000000 in
theorem rx58_157   : FnF Try.prog 58 true [iA (-57)] (iA 57) :=
  fn_e2 Try.func58 400 [.d, .d, .d, .v (iV 57), .d, .d] (ob := [(iV (IntKind.wrap .i64 (0 - (-57))) : AV) = (iV 57 : AV), (57 : Int) = 57]) ⟨rfl, rfl, trivial⟩

set_option maxHeartbeats 4000000 in
theorem rx57_158   : FnF Try.prog 57 true [iA 3, .list [iA 0, iA 57]] (iA 3) :=
  fn_e2 Try.func57 400 [.d, .d, .v (iV 2), .d, .d, .d, .d, .d, .d, .d, .d, .d, .v (iV 1), .d, .d, .d, .d, .d, .d, .d, .d, .d, .d, .d, .d, .v (iV 3), .d, .d, .d, .d, .d, .d, .d, .d, .v (iV 0), .d, .d, .d, .d, .d, .v (iV 2), .d, .d, .d, .d, .f true (iV 3), .d] (ob := [(iV (([iV 0, iV 57] : List AV).length : Int) : AV) = (iV 2 : AV), 0 ≤ (0 : Int), (iV (IntKind.wrap .i64 (0 + 1)) : AV) = (iV 1 : AV), 0 ≤ (1 : Int), (iV ((3 : Int).tmod 57) : AV) = (iV 3 : AV), (57 : Int) ≠ 0, (iV ((57 : Int).tmod 3) : AV) = (iV 0 : AV), (3 : Int) ≠ 0, (iV (IntKind.wrap .i64 (1 + 1)) : AV) = (iV 2 : AV), _, (3 : Int) = 3]) ⟨rfl, (by decide), rfl, (by decide), rfl, (by decide), rfl, (by decide), rfl, rx58_12, rfl, trivial⟩

set_option maxHeartbeats 4000000 in
theorem rx35_159   : FnF Try.prog 35 true [iA 0, iA 57, iA 3, iA 0] (.agg [iA 0, iA 57, iA 3, iA 0, iA 0]) :=
  fn_e2 Try.func35 400 [.d, .d, .d, .d, .d, .d, .d, .v (iV 57), .d, .v (iV 0), .v (iV 57), .d, .d, .d, .d, .d, .d, .d, .d, .d, .d, .f true (iV 0), .d, .d, .d] (ob := [(iV (IntKind.wrap .i64 (57 - 0)) : AV) = (iV 57 : AV), (iV ((57 : Int).tmod 3) : AV) = (iV 0 : AV), (3 : Int) ≠ 0, (iV (IntKind.wrap .i64 (57 - 0)) : AV) = (iV 57 : AV), _, (0 : Int) = 0, (57 : Int) = 57, (3 : Int) = 3, (0 : Int) = 0, (0 : Int) = 0]) ⟨rfl, rfl, (by decide), rfl, rx56_14, rfl, rfl, rfl, rfl, rfl, trivial⟩

set_option maxHeartbeats 4000000 in
theorem rx37_160   : FnF Try.prog 37 true [.agg [iA 0, iA 54, iA 3, iA 0, iA 0], .agg [iA 57, iA 57, iA 1, iA 0, iA 0]] (.agg [iA 0, iA 57, iA 3, iA 0, iA 0]) :=
  fn_e2 Try.func37 400 [.d, .d, .d, .d, .d, .d, .d, .d, .d, .d, .d, .d, .d, .d, .f true (iV 3), .d, .f true (iV 0), .d, .d, .d, .d, .v (iV (-57)), .f true (iV 57), .d, .f true (iV 3), .d, .d, .d, .d, .v (iV 0), .f true (.agg [iV 0, iV 57, iV 3, iV 0, iV 0]), .d] (ob := [_, _, (iV (IntKind.wrap .i64 (0 - 57)) : AV) = (iV (-57) : AV), _, _, ∀ e ∈ ([iV 0, iV 57] : List AV), idsOf e = [], (iV (bits .or .i64 0 0) : AV) = (iV 0 : AV), _, (0 : Int) = 0, (57 : Int) = 57, (3 : Int) = 3, (0 : Int) = 0, (0 : Int) = 0]) ⟨rx38_155, rx38_156, rfl, rx58_157, rx57_158, (by simp [idsOf, idsL]), rfl, rx35_159, rfl, rfl, rfl, rfl, rfl, trivial⟩

set_option maxHeartbeats 4000000 in
theorem rx36_161   : FnF Try.prog 36 true [.agg [iA 0, iA 81, iA 1, iA 0, iA 255], iA 60] (.bool true) :=
  fn_e2 Try.func36 400 [.d, .d, .d, .d, .d, .d, .d, .d, .d, .d, .d, .d, .d, .d, .d, .d, .v (iV 60), .d, .d, .v (iV 0), .d, .d, .d] (ob := [(iV (IntKind.wrap .i64 (60 - 0)) : AV) = (iV 60 : AV), (iV ((60 : Int).tmod 1) : AV) = (iV 0 : AV), (1 : Int) ≠ 0, (true : Bool) = true]) ⟨rfl, rfl, (by decide), rfl, trivial⟩

set_option maxHeartbeats 4000000 in
theorem rx35_162   : FnF Try.prog 35 true [iA 60, iA 60, iA 0, iA 0] (.agg [iA 60, iA 60, iA 1, iA 0, iA 0]) :=
  fn_e2 Try.func35 400 [.d, .d, .d, .d, .d, .d, .d, .d, .d, .d, .d, .d, .d] (ob := [(60 : Int) = 60, (60 : Int) = 60, (1 : Int) = 1, (0 : Int) = 0, (0 : Int) = 0]) ⟨rfl, rfl, rfl, rfl, rfl, trivial⟩

set_option maxHeartbeats 4000000 in
theorem rx38_163   : FnF Try.prog 38 true [.agg [iA 0, iA 57, iA 3, iA 0, iA 0]] (iA 3) :=
  fn_e2 Try.func38 400 [.d, .d, .d, .d, .d, .d, .d, .d, .d, .d, .d] (ob := [(3 : Int) = 3]) ⟨rfl, trivial⟩

set_option maxHeartbeats 4000000 in
theorem rx38_164   : FnF Try.prog 38 true [.agg [iA 60, iA 60, iA 1, iA 0, iA 0]] (iA 0) :=
  fn_e2 Try.func38 400 [.d, .d, .d, .d, .d, .d, .d, .d, .d] (ob := [(0 : Int) = 0]) ⟨rfl, trivial⟩

set_option maxHeartbeats 4000000 in
theorem rx58_165   : FnF Try.prog 58 true [iA (-60)] (iA 60) :=
  fn_e2 Try.func58 400 [.d, .d, .d, .v (iV 60), .d, .d] (ob := [(iV (IntKind.wrap .i64 (0 - (-60))) : AV) = (iV 60 : AV), (60 : Int) = 60]) ⟨rfl, rfl, trivial⟩

set_option maxHeartbeats 4000000 in
theorem rx57_166   : FnF Try.prog 57 true [iA 3, .list [iA 0, iA 60]] (iA 3) :=
  fn_e2 Try.func57 400 [.d, .d, .v (iV 2), .d, .d, .d, .d, .d, .d, .d, .d, .d, .v (iV 1), .d, .d, .d, .d, .d, .d, .d, .d, .d, .d, .d, .d, .v (iV 3), .d, .d, .d, .d, .d, .d, .d, .d, .v (iV 0), .d, .d, .d, .d, .d, .v (iV 2), .d, .d, .d, .d, .f true (iV 3), .d] (ob := [(iV (([iV 0, iV 60] : List AV).length : Int) : AV) = (iV 2 : AV), 0 ≤ (0 : Int), (iV (IntKind.wrap .i64 (0 + 1)) : AV) = (iV 1 : AV), 0 ≤ (1 : Int), (iV ((3 : Int).tmod 60) : AV) = (iV 3 : AV), (60 : Int) ≠ 0, (iV ((60 : Int).tmod 3) : AV) = (iV 0 : AV), (3 : Int) ≠ 0, (iV (IntKind.wrap .i64 (1 + 1)) : AV) = (iV 2 : AV), _, (3 : Int) = 3]) ⟨rfl, (by decide), rfl, (by decide), rfl, (by decide), rfl, (by decide), rfl, rx58_12, rfl, trivial⟩

set_option maxHeartbeats 4000000 in
theorem rx35_167   : FnF Try.prog 35 true [iA 0, iA 60, iA 3, iA 0] (.agg [iA 0, iA 60, iA 3, iA 0, iA 0]) :=
  fn_e2 Try.func35 400 [.d, .d, .d, .d, .d, .d, .d, .v (iV 60), .d, .v (iV 0), .v (iV 60), .d, .d, .d, .d, .d, .d, .d, .d, .d, .d, .f true (iV 0), .d, .d, .d] (ob := [(iV (IntKind.wrap .i64 (60 - 0)) : AV) = (iV 60 : AV), (iV ((60 : Int).tmod 3) : AV) = (iV 0 : AV), (3 : Int) ≠ 0, (iV (IntKind.wrap .i64 (60 - 0)) : AV) = (iV 60 : AV), _, (0 : Int) = 0, (60 : Int) = 60, (3 : Int) = 3, (0 : Int) = 0, (0 : Int) = 0]) ⟨rfl, rfl, (by decide), rfl, rx56_14, rfl, rfl, rfl, rfl, rfl, trivial⟩

set_option maxHeartbeats 4000000 in
theorem rx37_168   : FnF Try.prog 37 true [.agg [iA 0, iA 57, iA 3, iA 0, iA 0], .agg [iA 60, iA 60, iA 1, iA 0, iA 0]] (.agg [iA 0, iA 60, iA 3, iA 0, iA 0]) :=
  fn_e2 Try.func37 400 [.d, .d, .d, .d, .d, .d, .d, .d, .d, .d, .d, .d, .d, .d, .f true (iV 3), .d, .f true (iV 0), .d, .d, .d, .d, .v (iV (-60)), .f true (iV 60), .d, .f true (iV 3), .d, .d, .d, .d, .v (iV 0), .f true (.agg [iV 0, iV 60, iV 3, iV 0, iV 0]), .d] (ob := [_, _, (iV (IntKind.wrap .i64 (0 - 60)) : AV) = (iV (-60) : AV), _, _, ∀ e ∈ ([iV 0, iV 60] : List AV), idsOf e = [], (iV (bits .or .i64 0 0) : AV) = (iV 0 : AV), _, (0 : Int) = 0, (60 : Int) = 60, (3 : Int) = 3, (0 : Int) = 0, (0 : Int) = 0]) ⟨rx38_163, rx38_164, rfl, rx58_165, rx57_166, (by simp [idsOf, idsL]), rfl, rx35_167, rfl, rfl, rfl, rfl, rfl, trivial⟩

set_option maxHeartbeats 4000000 in
theorem rx36_169   : FnF Try.prog 36 true [.agg [iA 0, iA 81, iA 1, iA 0, iA 255], iA 63] (.bool true) :=
  fn_e2 Try.func36 400 [.d, .d, .d, .d, .d, .d, .d, .d, .d, .d, .d, .d, .d, .d, .d, .d, .v (iV 63), .d, .d, .v (iV 0), .d, .d, .d] (ob := [(iV (IntKind.wrap .i64 (63 - 0)) : AV) = (iV 63 : AV), (iV ((63 : Int).tmod 1) : AV) = (iV 0 : AV), (1 : Int) ≠ 0, (true : Bool) = true]) ⟨rfl, rfl, (by decide), rfl, trivial⟩

set_option maxHeartbeats 4000000 in
theorem rx35_170   : FnF Try.prog 35 true [iA 63, iA 63, iA 0, iA 0] (.agg [iA 63, iA 63, iA 1, iA 0, iA 0]) :=
  fn_e2 Try.func35 400 [.d, .d, .d, .d, .d, .d, .d, .d, .d, .d, .d, .d, .d] (ob := [(63 : Int) = 63, (63 : Int) = 63, (1 : Int) = 1, (0 : Int) = 0, (0 : Int) = 0]) ⟨rfl, rfl, rfl, rfl, rfl, trivial⟩

set_option maxHeartbeats 4000000 in
theorem rx38_171   : FnF Try.prog 38 true [.agg [iA 0, iA 60, iA 3, iA 0, iA 0]] (iA 3) :=
  fn_e2 Try.func38 400 [.d, .d, .d, .d, .d, .d, .d, .d, .d, .d, .d] (ob := [(3 : Int) = 3]) ⟨rfl, trivial⟩

set_option maxHeartbeats 4000000 in
theorem rx38_172   : FnF Try.prog 38 true [.agg [iA 63, iA 63, iA 1, iA 0, iA 0]] (iA 0) :=
  fn_e2 Try.func38 400 [.d, .d, .d, .d, .d, .d, .d, .d, .d] (ob := [(0 : Int) = 0]) ⟨rfl, trivial⟩

set_option maxHeartbeats 4000000 in
theorem rx58_173   : FnF Try.prog 58 true [iA (-63)] (iA 63) :=
  fn_e2 Try.func58 400 [.d, .d, .d, .v (iV 63), .d, .d] (ob := [(iV (IntKind.wrap .i64 (0 - (-63))) : AV) = (iV 63 : AV), (63 : Int) = 63]) ⟨rfl, rfl, trivial⟩

set_option maxHeartbeats 4000000 in
theorem rx57_174   : FnF Try.prog 57 true [iA 3, .list [iA 0, iA 63]] (iA 3) :=
  fn_e2 Try.func57 400 [.d, .d, .v (iV 2), .d, .d, .d, .d, .d, .d, .d, .d, .d, .v (iV 1), .d, .d, .d, .d, .d, .d, .d, .d, .d, .d, .d, .d, .v (iV 3), .d, .d, .d, .d, .d, .d, .d, .d, .v (iV 0), .d, .d, .d, .d, .d, .v (iV 2), .d, .d, .d, .d, .f true (iV 3), .d] (ob := [(iV (([iV 0, iV 63] : List AV).length : Int) : AV) = (iV 2 : AV), 0 ≤ (0 : Int), (iV (IntKind.wrap .i64 (0 + 1)) : AV) = (iV 1 : AV), 0 ≤ (1 : Int), (iV ((3 : Int).tmod 63) : AV) = (iV 3 : AV), (63 : Int) ≠ 0, (iV ((63 : Int).tmod 3) : AV) = (iV 0 : AV), (3 : Int) ≠ 0, (iV (IntKind.wrap .i64 (1 + 1)) : AV) = (iV 2 : AV), _, (3 : Int) = 3]) ⟨rfl, (by decide), rfl, (by decide), rfl, (by decide), rfl, (by decide), rfl, rx58_12, rfl, trivial⟩

set_option maxHeartbeats 4000000 in
theorem rx35_175   : FnF Try.prog 35 true [iA 0, iA 63, iA 3, iA 0] (.agg [iA 0, iA 63, iA 3, iA 0, iA 0]) :=
  fn_e2 Try.func35 400 [.d, .d, .d, .d, .d, .d, .d, .v (iV 63), .d, .v (iV 0), .v (iV 63), .d, .d, .d, .d, .d, .d, .d, .d, .d, .d, .f true (iV 0), .d, .d, .d] (ob := [(iV (IntKind.wrap .i64 (63 - 0)) : AV) = (iV 63 : AV), (iV ((63 : Int).tmod 3) : AV) = (iV 0 : AV), (3 : Int) ≠ 0, (iV (IntKind.wrap .i64 (63 - 0)) : AV) = (iV 63 : AV), _, (0 : Int) = 0, (63 : Int) = 63, (3 : Int) = 3, (0 : Int) = 0, (0 : Int) = 0]) ⟨rfl, rfl, (by decide), rfl, rx56_14, rfl, rfl, rfl, rfl, rfl, trivial⟩

set_option maxHeartbeats 4000000 in
theorem rx37_176   : FnF Try.prog 37 true [.agg [iA 0, iA 60, iA 3, iA 0, iA 0], .agg [iA 63, iA 63, iA 1, iA 0, iA 0]] (.agg [iA 0, iA 63, iA 3, iA 0, iA 0]) :=
  fn_e2 Try.func37 400 [.d, .d, .d, .d, .d, .d, .d, .d, .d, .d, .d, .d, .d, .d, .f true (iV 3), .d, .f true (iV 0), .d, .d, .d, .d, .v (iV (-63)), .f true (iV 63), .d, .f true (iV 3), .d, .d, .d, .d, .v (iV 0), .f true (.agg [iV 0, iV 63, iV 3, iV 0, iV 0]), .d] (ob := [_, _, (iV (IntKind.wrap .i64 (0 - 63)) : AV) = (iV (-63) : AV), _, _, ∀ e ∈ ([iV 0, iV 63] : List AV), idsOf e = [], (iV (bits .or .i64 0 0) : AV) = (iV 0 : AV), _, (0 : Int) = 0, (63 : Int) = 63, (3 : Int) = 3, (0 : Int) = 0, (0 : Int) = 0]) ⟨rx38_171, rx38_172, rfl, rx58_173, rx57_174, (by simp [idsOf, idsL]), rfl, rx35_175, rfl, rfl, rfl, rfl, rfl, trivial⟩

set_option maxHeartbeats 4000000 in
theorem rx36_177   : FnF Try.prog 36 true [.agg [iA 0, iA 81, iA 1, iA 0, iA 255], iA 66] (.bool true) :=
  fn_e2 Try.func36 400 [.d, .d, .d, .d, .d, .d, .d, .d, .d, .d, .d, .d, .d, .d, .d, .d, .v (iV 66), .d, .d, .v (iV 0), .d, .d, .d] (ob := [(iV (IntKind.wrap .i64 (66 - 0)) : AV) = (iV 66 : AV), (iV ((66 : Int).tmod 1) : AV) = (iV 0 : AV), (1 : Int) ≠ 0, (true : Bool) = true]) ⟨rfl, rfl, (by decide), rfl, trivial⟩

set_option maxHeartbeats 4000000 in
theorem rx35_178   : FnF Try.prog 35 true [iA 66, iA 66, iA 0, iA 0] (.agg [iA 66, iA 66, iA 1, iA 0, iA 0]) :=
  fn_e2 Try.func35 400 [.d, .d, .d, .d, .d, .d, .d, .d, .d, .d, .d, .d, .d] (ob := [(66 : Int) = 66, (66 : Int) = 66, (1 : Int) = 1, (0 : Int) = 0, (0 : Int) = 0]) ⟨rfl, rfl, rfl, rfl, rfl, trivial⟩

set_option maxHeartbeats 4000000 in
theorem rx38_179   : FnF Try.prog 38 true [.agg [iA 0, iA 63, iA 3, iA 0, iA 0]] (iA 3) :=
  fn_e2 Try.func38 400 [.d, .d, .d, .d, .d, .d, .d, .d, .d, .d, .d] (ob := [(3 : Int) = 3]) ⟨rfl, trivial⟩

set_option maxHeartbeats 4000000 in
theorem rx38_180   : FnF Try.prog 38 true [.agg [iA 66, iA 66, iA 1, iA 0, iA 0]] (iA 0) :=
  fn_e2 Try.func38 400 [.d, .d, .d, .d, .d, .d, .d, .d, .d] (ob := [(0 : Int) = 0]) ⟨rfl, trivial⟩

set_option maxHeartbeats 4000000 in
theorem rx58_181   : FnF Try.prog 58 true [iA (-66)] (iA 66) :=
  fn_e2 Try.func58 400 [.d, .d, .d, .v (iV 66), .d, .d] (ob := [(iV (IntKind.wrap .i64 (0 - (-66))) : AV) = (iV 66 : AV), (66 : Int) = 66]) ⟨rfl, rfl, trivial⟩

set_option maxHeartbeats 4000000 in
theorem rx57_182   : FnF Try.prog 57 true [iA 3, .list [iA 0, iA 66]] (iA 3) :=
  fn_e2 Try.func57 400 [.d, .d, .v (iV 2), .d, .d, .d, .d, .d, .d, .d, .d, .d, .v (iV 1), .d, .d, .d, .d, .d, .d, .d, .d, .d, .d, .d, .d, .v (iV 3), .d, .d, .d, .d, .d, .d, .d, .d, .v (iV 0), .d, .d, .d, .d, .d, .v (iV 2), .d, .d, .d, .d, .f true (iV 3), .d] (ob := [(iV (([iV 0, iV 66] : List AV).length : Int) : AV) = (iV 2 : AV), 0 ≤ (0 : Int), (iV (IntKind.wrap .i64 (0 + 1)) : AV) = (iV 1 : AV), 0 ≤ (1 : Int), (iV ((3 : Int).tmod 66) : AV) = (iV 3 : AV), (66 : Int) ≠ 0, (iV ((66 : Int).tmod 3) : AV) = (iV 0 : AV), (3 : Int) ≠ 0, (iV (IntKind.wrap .i64 (1 + 1)) : AV) = (iV 2 : AV), _, (3 : Int) = 3]) ⟨rfl, (by decide), rfl, (by decide), rfl, (by decide), rfl, (by decide), rfl, rx58_12, rfl, trivial⟩

set_option maxHeartbeats 4000000 in
theorem rx35_183   : FnF Try.prog 35 true [iA 0, iA 66, iA 3, iA 0] (.agg [iA 0, iA 66, iA 3, iA 0, iA 0]) :=
  fn_e2 Try.func35 400 [.d, .d, .d, .d, .d, .d, .d, .v (iV 66), .d, .v (iV 0), .v (iV 66), .d, .d, .d, .d, .d, .d, .d, .d, .d, .d, .f true (iV 0), .d, .d, .d] (ob := [(iV (IntKind.wrap .i64 (66 - 0)) : AV) = (iV 66 : AV), (iV ((66 : Int).tmod 3) : AV) = (iV 0 : AV), (3 : Int) ≠ 0, (iV (IntKind.wrap .i64 (66 - 0)) : AV) = (iV 66 : AV), _, (0 : Int) = 0, (66 : Int) = 66, (3 : Int) = 3, (0 : Int) = 0, (0 : Int) = 0]) ⟨rfl, rfl, (by decide), rfl, rx56_14, rfl, rfl, rfl, rfl, rfl, trivial⟩

set_option maxHeartbeats 4000000 in
theorem rx37_184   : FnF Try.prog 37 true [.agg [iA 0, iA 63, iA 3, iA 0, iA 0], .agg [iA 66, iA 66, iA 1, iA 0, iA 0]] (.agg [iA 0, iA 66, iA 3, iA 0, iA 0]) :=
  fn_e2 Try.func37 400 [.d, .d, .d, .d, .d, .d, .d, .d, .d, .d, .d, .d, .d, .d, .f true (iV 3), .d, .f true (iV 0), .d, .d, .d, .d, .v (iV (-66)), .f true (iV 66), .d, .f true (iV 3), .d, .d, .d, .d, .v (iV 0), .f true (.agg [iV 0, iV 66, iV 3, iV 0, iV 0]), .d] (ob := [_, _, (iV (IntKind.wrap .i64 (0 - 66)) : AV) = (iV (-66) : AV), _, _, ∀ e ∈ ([iV 0, iV 66] : List AV), idsOf e = [], (iV (bits .or .i64 0 0) : AV) = (iV 0 : AV), _, (0 : Int) = 0, (66 : Int) = 66, (3 : Int) = 3, (0 : Int) = 0, (0 : Int) = 0]) ⟨rx38_179, rx38_180, rfl, rx58_181, rx57_182, (by simp [idsOf, idsL]), rfl, rx35_183, rfl, rfl, rfl, rfl, rfl, trivial⟩

set_option maxHeartbeats 4000000 in
theorem rx36_185   : FnF Try.prog 36 true [.agg [iA 0, iA 81, iA 1, iA 0, iA 255], iA 69] (.bool true) :=
  fn_e2 Try.func36 400 [.d, .d, .d, .d, .d, .d, .d, .d, .d, .d, .d, .d, .d, .d, .d, .d, .v (iV 69), .d, .d, .v (iV 0), .d, .d, .d] (ob := [(iV (IntKind.wrap .i64 (69 - 0)) : AV) = (iV 69 : AV), (iV ((69 : Int).tmod 1) : AV) = (iV 0 : AV), (1 : Int) ≠ 0, (true : Bool) = true]) ⟨rfl, rfl, (by decide), rfl, trivial⟩

set_option maxHeartbeats 4000000 in
theorem rx35_186   : FnF Try.prog 35 true [iA 69, iA 69, iA 0, iA 0] (.agg [iA 69, iA 69, iA 1, iA 0, iA 0]) :=
  fn_e2 Try.func35 400 [.d, .d, .d, .d, .d, .d, .d, .d, .d, .d, .d, .d, .d] (ob := [(69 : Int) = 69, (69 : Int) = 69, (1 : Int) = 1, (0 : Int) = 0, (0 : Int) = 0]) ⟨rfl, rfl, rfl, rfl, rfl, trivial⟩

set_option maxHeartbeats 4000000 in
theorem rx38_187   : FnF Try.prog 38 true [.agg [iA 0, iA 66, iA 3, iA 0, iA 0]] (iA 3) :=
  fn_e2 Try.func38 400 [.d, .d, .d, .d, .d, .d, .d, .d, .d, .d, .d] (ob := [(3 : Int) = 3]) ⟨rfl, trivial⟩

set_option maxHeartbeats 4000000 in
theorem rx38_188   : FnF Try.prog 38 true [.agg [iA 69, iA 69, iA 1, iA 0, iA 0]] (iA 0) :=
  fn_e2 Try.func38 400 [.d, .d, .d, .d, .d, .d, .d, .d, .d] (ob := [(0 : Int) = 0]) ⟨rfl, trivial⟩

set_option maxHeartbeats 4000000 in
theorem rx58_189   : FnF Try.prog 58 true [iA (-69)] (iA 69) :=
  fn_e2 Try.func58 400 [.d, .d, .d, .v (iV 69), .d, .d] (ob := [(iV (IntKind.wrap .i64 (0 - (-69))) : AV) = (iV 69 : AV), (69 : Int) = 69]) ⟨rfl, rfl, trivial⟩

set_option maxHeartbeats 4000000 in
theorem rx57_190   : FnF Try.prog 57 true [iA 3, .list [iA 0, iA 69]] (iA 3) :=
  fn_e2 Try.func57 400 [.d, .d, .v (iV 2), .d, .d, .d, .d, .d, .d, .d, .d, .d, .v (iV 1), .d, .d, .d, .d, .d, .d, .d, .d, .d, .d, .d, .d, .v (iV 3), .d, .d, .d, .d, .d, .d, .d, .d, .v (iV 0), .d, .d, .d, .d, .d, .v (iV 2), .d, .d, .d, .d, .f true (iV 3), .d] (ob := [(iV (([iV 0, iV 69] : List AV).length : Int) : AV) = (iV 2 : AV), 0 ≤ (0 : Int), (iV (IntKind.wrap .i64 (0 + 1)) : AV) = (iV 1 : AV), 0 ≤ (1 : Int), (iV ((3 : Int).tmod 69) : AV) = (iV 3 : AV), (69 : Int) ≠ 0, (iV ((69 : Int).tmod 3) : AV) = (iV 0 : AV), (3 : Int) ≠ 0, (iV (IntKind.wrap .i64 (1 + 1)) : AV) = (iV 2 : AV), _, (3 : Int) = 3]) ⟨rfl, (by decide), rfl, (by decide), rfl, (by decide), rfl, (by decide), rfl, rx58_12, rfl, trivial⟩

set_option maxHeartbeats 4000000 in
theorem rx35_191   : FnF Try.prog 35 true [iA 0, iA 69, iA 3, iA 0] (.agg [iA 0, iA 69, iA 3, iA 0, iA 0]) :=
  fn_e2 Try.func35 400 [.d, .d, .d, .d, .d, .d, .d, .v (iV 69), .d, .v (iV 0), .v (iV 69), .d, .d, .d, .d, .d, .d, .d, .d, .d, .d, .f true (iV 0), .d, .d, .d] (ob := [(iV (IntKind.wrap .i64 (69 - 0)) : AV) = (iV 69 : AV), (iV ((69 : Int).tmod 3) : AV) = (iV 0 : AV), (3 : Int) ≠ 0, (iV (IntKind.wrap .i64 (69 - 0)) : AV) = (iV 69 : AV), _, (0 : Int) = 0, (69 : Int) = 69, (3 : Int) = 3, (0 : Int) = 0, (0 : Int) = 0]) ⟨rfl, rfl, (by decide), rfl, rx56_14, rfl, rfl, rfl, rfl, rfl, trivial⟩

set_option maxHeartbeats 4000000 in
theorem rx37_192   : FnF Try.prog 37 true [.agg [iA 0, iA 66, iA 3, iA 0, iA 0], .agg [iA 69, iA 69, iA 1, iA 0, iA 0]] (.agg [iA 0, iA 69, iA 3, iA 0, iA 0]) :=
  fn_e2 Try.func37 400 [.d, .d, .d, .d, .d, .d, .d, .d, .d, .d, .d, .d, .d, .d, .f true (iV 3), .d, .f true (iV 0), .d, .d, .d, .d, .v (iV (-69)), .f true (iV 69), .d, .f true (iV 3), .d, .d, .d, .d, .v (iV 0), .f true (.agg [iV 0, iV 69, iV 3, iV 0, iV 0]), .d] (ob := [_, _, (iV (IntKind.wrap .i64 (0 - 69)) : AV) = (iV (-69) : AV), _, _, ∀ e ∈ ([iV 0, iV 69] : List AV), idsOf e = [], (iV (bits .or .i64 0 0) : AV) = (iV 0 : AV), _, (0 : Int) = 0, (69 : Int) = 69, (3 : Int) = 3, (0 : Int) = 0, (0 : Int) = 0]) ⟨rx38_187, rx38_188, rfl, rx58_189, rx57_190, (by simp [idsOf, idsL]), rfl, rx35_191, rfl, rfl, rfl, rfl, rfl, trivial⟩

set_option maxHeartbeats 4000000 in
theorem rx36_193   : FnF Try.prog 36 true [.agg [iA 0, iA 81, iA 1, iA 0, iA 255], iA 72] (.bool true) :=
  fn_e2 Try.func36 400 [.d, .d, .d, .d, .d, .d, .d, .d, .d, .d, .d, .d, .d, .d, .d, .d, .v (iV 72), .d, .d, .v (iV 0), .d, .d, .d] (ob := [(iV (IntKind.wrap .i64 (72 - 0)) : AV) = (iV 72 : AV), (iV ((72 : Int).tmod 1) : AV) = (iV 0 : AV), (1 : Int) ≠ 0, (true : Bool) = true]) ⟨rfl, rfl, (by decide), rfl, trivial⟩

set_option maxHeartbeats 4000000 in
theorem rx35_194   : FnF Try.prog 35 true [iA 72, iA 72, iA 0, iA 0] (.agg [iA 72, iA 72, iA 1, iA 0, iA 0]) :=
  fn_e2 Try.func35 400 [.d, .d, .d, .d, .d, .d, .d, .d, .d, .d, .d, .d, .d] (ob := [(72 : Int) = 72, (72 : Int) = 72, (1 : Int) = 1, (0 : Int) = 0, (0 : Int) = 0]) ⟨rfl, rfl, rfl, rfl, rfl, trivial⟩

set_option maxHeartbeats 4000000 in
theorem rx38_195   : FnF Try.prog 38 true [.agg [iA 0, iA 69, iA 3, iA 0, iA 0]] (iA 3) :=
  fn_e2 Try.func38 400 [.d, .d, .d, .d, .d, .d, .d, .d, .d, .d, .d] (ob := [(3 : Int) = 3]) ⟨rfl, trivial⟩

set_option maxHeartbeats 4000000 in
theorem rx38_196   : FnF Try.prog 38 true [.agg [iA 72, iA 72, iA 1, iA 0, iA 0]] (iA 0) :=
  fn_e2 Try.func38 400 [.d, .d, .d, .d, .d, .d, .d, .d, .d] (ob := [(0 : Int) = 0]) ⟨rfl, trivial⟩

set_option maxHeartbeats 4000000 in
theorem rx58_197   : FnF Try.prog 58 true [iA (-72)] (iA 72) :=
  fn_e2 Try.func58 400 [.d, .d, .d, .v (iV 72), .d, .d] (ob := [(iV (IntKind.wrap .i64 (0 - (-72))) : AV) = (iV 72 : AV), (72 : Int) = 72]) ⟨rfl, rfl, trivial⟩

set_option maxHeartbeats 4000000 in
theorem rx57_198   : FnF Try.prog 57 true [iA 3, .list [iA 0, iA 72]] (iA 3) :=
  fn_e2 Try.func57 400 [.d, .d, .v (iV 2), .d, .d, .d, .d, .d, .d, .d, .d, .d, .v (iV 1), .d, .d, .d, .d, .d, .d, .d, .d, .d, .d, .d, .d, .v (iV 3), .d, .d, .d, .d, .d, .d, .d, .d, .v (iV 0), .d, .d, .d, .d, .d, .v (iV 2), .d, .d, .d, .d, .f true (iV 3), .d] (ob := [(iV (([iV 0, iV 72] : List AV).length : Int) : AV) = (iV 2 : AV), 0 ≤ (0 : Int), (iV (IntKind.wrap .i64 (0 + 1)) : AV) = (iV 1 : AV), 0 ≤ (1 : Int), (iV ((3 : Int).tmod 72) : AV) = (iV 3 : AV), (72 : Int) ≠ 0, (iV ((72 : Int).tmod 3) : AV) = (iV 0 : AV), (3 : Int) ≠ 0, (iV (IntKind.wrap .i64 (1 + 1)) : AV) = (iV 2 : AV), _, (3 : Int) = 3]) ⟨rfl, (by decide), rfl, (by decide), rfl, (by decide), rfl, (by decide), rfl, rx58_12, rfl, trivial⟩

set_option maxHeartbeats 4000000 in
theorem rx35_199   : FnF Try.prog 35 true [iA 0, iA 72, iA 3, iA 0] (.agg [iA 0, iA 72, iA 3, iA 0, iA 0]) :=
  fn_e2 Try.func35 400 [.d, .d, .d, .d, .d, .d, .d, .v (iV 72), .d, .v (iV 0), .v (iV 72), .d, .d, .d, .d, .d, .d, .d, .d, .d, .d, .f true (iV 0), .d, .d, .d] (ob := [(iV (IntKind.wrap .i64 (72 - 0)) : AV) = (iV 72 : AV), (iV ((72 : Int).tmod 3) : AV) = (iV 0 : AV), (3 : Int) ≠ 0, (iV (IntKind.wrap .i64 (72 - 0)) : AV) = (iV 72 : AV), _, (0 : Int) = 0, (72 : Int) = 72, (3 : Int) = 3, (0 : Int) = 0, (0 : Int) = 0]) ⟨rfl, rfl, (by decide), rfl, rx56_14, rfl, rfl, rfl, rfl, rfl, trivial⟩

set_option maxHeartbeats 4000000 in
theorem rx37_200   : FnF Try.prog 37 true [.agg [iA 0, iA 69, iA 3, iA 0, iA 0], .agg [iA 72, iA 72, iA 1, iA 0, iA 0]] (.agg [iA 0, iA 72, iA 3, iA 0, iA 0]) :=
  fn_e2 Try.func37 400 [.d, .d, .d, .d, .d, .d, .d, .d, .d, .d, .d, .d, .d, .d, .f true (iV 3), .d, .f true (iV 0), .d, .d, .d, .d, .v (iV (-72)), .f true (iV 72), .d, .f true (iV 3), .d, .d, .d, .d, .v (iV 0), .f true (.agg [iV 0, iV 72, iV 3, iV 0, iV 0]), .d] (ob := [_, _, (iV (IntKind.wrap .i64 (0 - 72)) : AV) = (iV (-72) : AV), _, _, ∀ e ∈ ([iV 0, iV 72] : List AV), idsOf e = [], (iV (bits .or .i64 0 0) : AV) = (iV 0 : AV), _, (0 : Int) = 0, (72 : Int) = 72, (3 : Int) = 3, (0 : Int) = 0, (0 : Int) = 0]) ⟨rx38_195, rx38_196, rfl, rx58_197, rx57_198, (by simp [idsOf, idsL]), rfl, rx35_199, rfl, rfl, rfl, rfl, rfl, trivial⟩

set_option maxHeartbeats 4000000 in
theorem rx36_201   : FnF Try.prog 36 true [.agg [iA 0, iA 81, iA 1, iA 0, iA 255], iA 75] (.bool true) :=
  fn_e2 Try.func36 400 [.d, .d, .d, .d, .d, .d, .d, .d, .d, .d, .d, .d, .d, .d, .d, .d, .v (iV 75), .d, .d, .v (iV 0), .d, .d, .d] (ob := [(iV (IntKind.wrap .i64 (75 - 0)) : AV) = (iV 75 : AV), (iV ((75 : Int).tmod 1) : AV) = (iV 0 : AV), (1 : Int) ≠ 0, (true : Bool) = true]) ⟨rfl, rfl, (by decide), rfl, trivial⟩

set_option maxHeartbeats 4000000 in
theorem rx35_202   : FnF Try.prog 35 true [iA 75, iA 75, iA 0, iA 0] (.agg [iA 75, iA 75, iA 1, iA 0, iA 0]) :=
  fn_e2 Try.func35 400 [.d, .d, .d, .d, .d, .d, .d, .d, .d, .d, .d, .d, .d] (ob := [(75 : Int) = 75, (75 : Int) = 75, (1 : Int) = 1, (0 : Int) = 0, (0 : Int) = 0]) ⟨rfl, rfl, rfl, rfl, rfl, trivial⟩

set_option maxHeartbeats 4000000 in
theorem rx38_203   : FnF Try.prog 38 true [.agg [iA 0, iA 72, iA 3, iA 0, iA 0]] (iA 3) :=
  fn_e2 Try.func38 400 [.d, .d, .d, .d, .d, .d, .d, .d, .d, .d, .d] (ob := [(3 : Int) = 3]) ⟨rfl, trivial⟩

set_option maxHeartbeats 4000000 in
theorem rx38_204   : FnF Try.prog 38 true [.agg [iA 75, iA 75, iA 1, iA 0, iA 0]] (iA 0) :=
  fn_e2 Try.func38 400 [.d, .d, .d, .d, .d, .d, .d, .d, .d] (ob := [(0 : Int) = 0]) ⟨rfl, trivial⟩

set_option maxHeartbeats 4000000 in
theorem rx58_205   : FnF Try.prog 58 true [iA (-75)] (iA 75) :=
  fn_e2 Try.func58 400 [.d, .d, .d, .v (iV 75), .d, .d] (ob := [(iV (IntKind.wrap .i64 (0 - (-75))) : AV) = (iV 75 : AV), (75 : Int) = 75]) ⟨rfl, rfl, trivial⟩

set_option maxHeartbeats 4000000 in
theorem rx57_206   : FnF Try.prog 57 true [iA 3, .list [iA 0, iA 75]] (iA 3) :=
  fn_e2 Try.func57 400 [.d, .d, .v (iV 2), .d, .d, .d, .d, .d, .d, .d, .d, .d, .v (iV 1), .d, .d, .d, .d, .d, .d, .d, .d, .d, .d, .d, .d, .v (iV 3), .d, .d, .d, .d, .d, .d, .d, .d, .v (iV 0), .d, .d, .d, .d, .d, .v (iV 2), .d, .d, .d, .d, .f true (iV 3), .d] (ob := [(iV (([iV 0, iV 75] : List AV).length : Int) : AV) = (iV 2 : AV), 0 ≤ (0 : Int), (iV (IntKind.wrap .i64 (0 + 1)) : AV) = (iV 1 : AV), 0 ≤ (1 : Int), (iV ((3 : Int).tmod 75) : AV) = (iV 3 : AV), (75 : Int) ≠ 0, (iV ((75 : Int).tmod 3) : AV) = (iV 0 : AV), (3 : Int) ≠ 0, (iV (IntKind.wrap .i64 (1 + 1)) : AV) = (iV 2 : AV), _, (3 : Int) = 3]) ⟨rfl, (by decide), rfl, (by decide), rfl, (by decide), rfl, (by decide), rfl, rx58_12, rfl, trivial⟩

set_option maxHeartbeats 4000000 in
theorem rx35_207   : FnF Try.prog 35 true [iA 0, iA 75, iA 3, iA 0] (.agg [iA 0, iA 75, iA 3, iA 0, iA 0]) :=
  fn_e2 Try.func35 400 [.d, .d, .d, .d, .d, .d, .d, .v (iV 75), .d, .v (iV 0), .v (iV 75), .d, .d, .d, .d, .d, .d, .d, .d, .d, .d, .f true (iV 0), .d, .d, .d] (ob := [(iV (IntKind.wrap .i64 (75 - 0)) : AV) = (iV 75 : AV), (iV ((75 : Int).tmod 3) : AV) = (iV 0 : AV), (3 : Int) ≠ 0, (iV (IntKind.wrap .i64 (75 - 0)) : AV) = (iV 75 : AV), _, (0 : Int) = 0, (75 : Int) = 75, (3 : Int) = 3, (0 : Int) = 0, (0 : Int) = 0]) ⟨rfl, rfl, (by decide), rfl, rx56_14, rfl, rfl, rfl, rfl, rfl, trivial⟩

set_option maxHeartbeats 4000000 in
theorem rx37_208   : FnF Try.prog 37 true [.agg [iA 0, iA 72, iA 3, iA 0, iA 0], .agg [iA 75, iA 75, iA 1, iA 0, iA 0]] (.agg [iA 0, iA 75, iA 3, iA 0, iA 0]) :=
  fn_e2 Try.func37 400 [.d, .d, .d, .d, .d, .d, .d, .d, .d, .d, .d, .d, .d, .d, .f true (iV 3), .d, .f true (iV 0), .d, .d, .d, .d, .v (iV (-75)), .f true (iV 75), .d, .f true (iV 3), .d, .d, .d, .d, .v (iV 0), .f true (.agg [iV 0, iV 75, iV 3, iV 0, iV 0]), .d] (ob := [_, _, (iV (IntKind.wrap .i64 (0 - 75)) : AV) = (iV (-75) : AV), _, _, ∀ e ∈ ([iV 0, iV 75] : List AV), idsOf e = [], (iV (bits .or .i64 0 0) : AV) = (iV 0 : AV), _, (0 : Int) = 0, (75 : Int) = 75, (3 : Int) = 3, (0 : Int) = 0, (0 : Int) = 0]) ⟨rx38_203, rx38_204, rfl, rx58_205, rx57_206, (by simp [idsOf, idsL]), rfl, rx35_207, rfl, rfl, rfl, rfl, rfl, trivial⟩

set_option maxHeartbeats 4000000 in
theorem rx36_209   : FnF Try.prog 36 true [.agg [iA 0, iA 81, iA 1, iA 0, iA 255], iA 78] (.bool true) :=
  fn_e2 Try.func36 400 [.d, .d, .d, .d, .d, .d, .d, .d, .d, .d, .d, .d, .d, .d, .d, .d, .v (iV 78), .d, .d, .v (iV 0), .d, .d, .d] (ob := [(iV (IntKind.wrap .i64 (78 - 0)) : AV) = (iV 78 : AV), (iV ((78 : Int).tmod 1) : AV) = (iV 0 : AV), (1 : Int) ≠ 0, (true : Bool) = true]) ⟨rfl, rfl, (by decide), rfl, trivial⟩

set_option maxHeartbeats 4000000 in
theorem rx35_210   : FnF Try.prog 35 true [iA 78, iA 78, iA 0, iA 0] (.agg [iA 78, iA 78, iA 1, iA 0, iA 0]) :=
  fn_e2 Try.func35 400 [.d, .d, .d, .d, .d, .d, .d, .d, .d, .d, .d, .d, .d] (ob := [(78 : Int) = 78, (78 : Int) = 78, (1 : Int) = 1, (0 : Int) = 0, (0 : Int) = 0]) ⟨rfl, rfl, rfl, rfl, rfl, trivial⟩

set_option maxHeartbeats 4000000 in
theorem rx38_211   : FnF Try.prog 38 true [.agg [iA 0, iA 75, iA 3, iA 0, iA 0]] (iA 3) :=
  fn_e2 Try.func38 400 [.d, .d, .d, .d, .d, .d, .d, .d, .d, .d, .d] (ob := [(3 : Int) = 3]) ⟨rfl, trivial⟩

set_option maxHeartbeats 4000000 in
theorem rx38_212   : FnF Try.prog 38 true [.agg [iA 78, iA 78, iA 1, iA 0, iA 0]] (iA 0) :=
  fn_e2 Try.func38 400 [.d, .d, .d, .d, .d, .d, .d, .d, .d] (ob := [(0 : Int) = 0]) ⟨rfl, trivial⟩

set_option maxHeartbeats 4000000 in
theorem rx58_213   : FnF Try.prog 58 true [iA (-78)] (iA 78) :=
  fn_e2 Try.func58 400 [.d, .d, .d, .v (iV 78), .d, .d] (ob := [(iV (IntKind.wrap .i64 (0 - (-78))) : AV) = (iV 78 : AV), (78 : Int) = 78]) ⟨rfl, rfl, trivial⟩

set_option maxHeartbeats 4000000 in
theorem rx57_214   : FnF Try.prog 57 true [iA 3, .list [iA 0, iA 78]] (iA 3) :=
  fn_e2 Try.func57 400 [.d, .d, .v (iV 2), .d, .d, .d, .d, .d, .d, .d, .d, .d, .v (iV 1), .d, .d, .d, .d, .d, .d, .d, .d, .d, .d, .d, .d, .v (iV 3), .d, .d, .d, .d, .d, .d, .d, .d, .v (iV 0), .d, .d, .d, .d, .d, .v (iV 2), .d, .d, .d, .d, .f true (iV 3), .d] (ob := [(iV (([iV 0, iV 78] : List AV).length : Int) : AV) = (iV 2 : AV), 0 ≤ (0 : Int), (iV (IntKind.wrap .i64 (0 + 1)) : AV) = (iV 1 : AV), 0 ≤ (1 : Int), (iV ((3 : Int).tmod 78) : AV) = (iV 3 : AV), (78 : Int) ≠ 0, (iV ((78 : Int).tmod 3) : AV) = (iV 0 : AV), (3 : Int) ≠ 0, (iV (IntKind.wrap .i64 (1 + 1)) : AV) = (iV 2 : AV), _, (3 : Int) = 3]) ⟨rfl, (by decide), rfl, (by decide), rfl, (by decide), rfl, (by decide), rfl, rx58_12, rfl, trivial⟩

set_option maxHeartbeats 4000000 in
theorem rx35_215   : FnF Try.prog 35 true [iA 0, iA 78, iA 3, iA 0] (.agg [iA 0, iA 78, iA 3, iA 0, iA 0]) :=
  fn_e2 Try.func35 400 [.d, .d, .d, .d, .d, .d, .d, .v (iV 78), .d, .v (iV 0), .v (iV 78), .d, .d, .d, .d, .d, .d, .d, .d, .d, .d, .f true (iV 0), .d, .d, .d] (ob := [(iV (IntKind.wrap .i64 (78 - 0)) : AV) = (iV 78 : AV), (iV ((78 : Int).tmod 3) : AV) = (iV 0 : AV), (3 : Int) ≠ 0, (iV (IntKind.wrap .i64 (78 - 0)) : AV) = (iV 78 : AV), _, (0 : Int) = 0, (78 : Int) = 78, (3 : Int) = 3, (0 : Int) = 0, (0 : Int) = 0]) ⟨rfl, rfl, (by decide), rfl, rx56_14, rfl, rfl, rfl, rfl, rfl, trivial⟩

set_option maxHeartbeats 4000000 in
theorem rx37_216   : FnF Try.prog 37 true [.agg [iA 0, iA 75, iA 3, iA 0, iA 0], .agg [iA 78, iA 78, iA 1, iA 0, iA 0]] (.agg [iA 0, iA 78, iA 3, iA 0, iA 0]) :=
  fn_e2 Try.func37 400 [.d, .d, .d, .d, .d, .d, .d, .d, .d, .d, .d, .d, .d, .d, .f true (iV 3), .d, .f true (iV 0), .d, .d, .d, .d, .v (iV (-78)), .f true (iV 78), .d, .f true (iV 3), .d, .d, .d, .d, .v (iV 0), .f true (.agg [iV 0, iV 78, iV 3, iV 0, iV 0]), .d] (ob := [_, _, (iV (IntKind.wrap .i64 (0 - 78)) : AV) = (iV (-78) : AV), _, _, ∀ e ∈ ([iV 0, iV 78] : List AV), idsOf e = [], (iV (bits .or .i64 0 0) : AV) = (iV 0 : AV), _, (0 : Int) = 0, (78 : Int) = 78, (3 : Int) = 3, (0 : Int) = 0, (0 : Int) = 0]) ⟨rx38_211, rx38_212, rfl, rx58_213, rx57_214, (by simp [idsOf, idsL]), rfl, rx35_215, rfl, rfl, rfl, rfl, rfl, trivial⟩

set_option maxHeartbeats 4000000 in
theorem rx36_217   : FnF Try.prog 36 true [.agg [iA 0, iA 81, iA 1, iA 0, iA 255], iA 81] (.bool true) :=
  fn_e2 Try.func36 400 [.d, .d, .d, .d, .d, .d, .d, .d, .d, .d, .d, .d, .d, .d, .d, .d, .v (iV 81), .d, .d, .v (iV 0), .d, .d, .d] (ob := [(iV (IntKind.wrap .i64 (81 - 0)) : AV) = (iV 81 : AV), (iV ((81 : Int).tmod 1) : AV) = (iV 0 : AV), (1 : Int) ≠ 0, (true : Bool) = true]) ⟨rfl, rfl, (by decide), rfl, trivial⟩

set_option maxHeartbeats 4000000 in
theorem rx35_218   : FnF Try.prog 35 true [iA 81, iA 81, iA 0, iA 0] (.agg [iA 81, iA 81, iA 1, iA 0, iA 0]) :=
  fn_e2 Try.func35 400 [.d, .d, .d, .d, .d, .d, .d, .d, .d, .d, .d, .d, .d] (ob := [(81 : Int) = 81, (81 : Int) = 81, (1 : Int) = 1, (0 : Int) = 0, (0 : Int) = 0]) ⟨rfl, rfl, rfl, rfl, rfl, trivial⟩

set_option maxHeartbeats 4000000 in
theorem rx38_219   : FnF Try.prog 38 true [.agg [iA 0, iA 78, iA 3, iA 0, iA 0]] (iA 3) :=
  fn_e2 Try.func38 400 [.d, .d, .d, .d, .d, .d, .d, .d, .d, .d, .d] (ob := [(3 : Int) = 3]) ⟨rfl, trivial⟩

set_option maxHeartbeats 4000000 in
theorem rx38_220   : FnF Try.prog 38 true [.agg [iA 81, iA 81, iA 1, iA 0, iA 0]] (iA 0) :=
  fn_e2 Try.func38 400 [.d, .d, .d, .d, .d, .d, .d, .d, .d] (ob := [(0 : Int) = 0]) ⟨rfl, trivial⟩

set_option maxHeartbeats 4000000 in
theorem rx58_221   : FnF Try.prog 58 true [iA (-81)] (iA 81) :=
  fn_e2 Try.func58 400 [.d, .d, .d, .v (iV 81), .d, .d] (ob := [(iV (IntKind.wrap .i64 (0 - (-81))) : AV) = (iV 81 : AV), (81 : Int) = 81]) ⟨rfl, rfl, trivial⟩

set_option maxHeartbeats 4000000 in
theorem rx57_222   : FnF Try.prog 57 true [iA 3, .list [iA 0, iA 81]] (iA 3) :=
  fn_e2 Try.func57 400 [.d, .d, .v (iV 2), .d, .d, .d, .d, .d, .d, .d, .d, .d, .v (iV 1), .d, .d, .d, .d, .d, .d, .d, .d, .d, .d, .d, .d, .v (iV 3), .d, .d, .d, .d, .d, .d, .d, .d, .v (iV 0), .d, .d, .d, .d, .d, .v (iV 2), .d, .d, .d, .d, .f true (iV 3), .d] (ob := [(iV (([iV 0, iV 81] : List AV).length : Int) : AV) = (iV 2 : AV), 0 ≤ (0 : Int), (iV (IntKind.wrap .i64 (0 + 1)) : AV) = (iV 1 : AV), 0 ≤ (1 : Int), (iV ((3 : Int).tmod 81) : AV) = (iV 3 : AV), (81 : Int) ≠ 0, (iV ((81 : Int).tmod 3) : AV) = (iV 0 : AV), (3 : Int) ≠ 0, (iV (IntKind.wrap .i64 (1 + 1)) : AV) = (iV 2 : AV), _, (3 : Int) = 3]) ⟨rfl, (by decide), rfl, (by decide), rfl, (by decide), rfl, (by decide), rfl, rx58_12, rfl, trivial⟩

set_option maxHeartbeats 4000000 in
theorem rx35_223   : FnF Try.prog 35 true [iA 0, iA 81, iA 3, iA 0] (.agg [iA 0, iA 81, iA 3, iA 0, iA 0]) :=
  fn_e2 Try.func35 400 [.d, .d, .d, .d, .d, .d, .d, .v (iV 81), .d, .v (iV 0), .v (iV 81), .d, .d, .d, .d, .d, .d, .d, .d, .d, .d, .f true (iV 0), .d, .d, .d] (ob := [(iV (IntKind.wrap .i64 (81 - 0)) : AV) = (iV 81 : AV), (iV ((81 : Int).tmod 3) : AV) = (iV 0 : AV), (3 : Int) ≠ 0, (iV (IntKind.wrap .i64 (81 - 0)) : AV) = (iV 81 : AV), _, (0 : Int) = 0, (81 : Int) = 81, (3 : Int) = 3, (0 : Int) = 0, (0 : Int) = 0]) ⟨rfl, rfl, (by decide), rfl, rx56_14, rfl, rfl, rfl, rfl, rfl, trivial⟩

set_option maxHeartbeats 4000000 in
theorem rx37_224   : FnF Try.prog 37 true [.agg [iA 0, iA 78, iA 3, iA 0, iA 0], .agg [iA 81, iA 81, iA 1, iA 0, iA 0]] (.agg [iA 0, iA 81, iA 3, iA 0, iA 0]) :=
  fn_e2 Try.func37 400 [.d, .d, .d, .d, .d, .d, .d, .d, .d, .d, .d, .d, .d, .d, .f true (iV 3), .d, .f true (iV 0), .d, .d, .d, .d, .v (iV (-81)), .f true (iV 81), .d, .f true (iV 3), .d, .d, .d, .d, .v (iV 0), .f true (.agg [iV 0, iV 81, iV 3, iV 0, iV 0]), .d] (ob := [_, _, (iV (IntKind.wrap .i64 (0 - 81)) : AV) = (iV (-81) : AV), _, _, ∀ e ∈ ([iV 0, iV 81] : List AV), idsOf e = [], (iV (bits .or .i64 0 0) : AV) = (iV 0 : AV), _, (0 : Int) = 0, (81 : Int) = 81, (3 : Int) = 3, (0 : Int) = 0, (0 : Int) = 0]) ⟨rx38_219, rx38_220, rfl, rx58_221, rx57_222, (by simp [idsOf, idsL]), rfl, rx35_223, rfl, rfl, rfl, rfl, rfl, trivial⟩

set_option maxHeartbeats 4000000 in
theorem rx77_225   : FnF Try.prog 77 true [.agg [iA 0, iA 81, iA 3, iA 0, iA 0], .agg [iA 0, iA 81, iA 1, iA 0, iA 255], iA 0] (.tuple [.agg [iA 0, iA 81, iA 3, iA 0, iA 0], .bool true]) :=
  fn_e2 Try.func77 400 [.d, .d, .d, .d, .d, .d, .d, .d, .d, .d, .d, .d, .d, .d, .d, .d, .f true (.bool true), .d, .d, .d, .d, .d, .f true (.agg [iV 0, iV 0, iV 1, iV 0, iV 0]), .d, .d, .d, .d, .d, .d, .d, .d, .d, .d, .v (iV 3), .d, .d, .d, .d, .d, .d, .d, .d, .f true (.bool true), .d, .d, .d, .d, .d, .f true (.agg [iV 3, iV 3, iV 1, iV 0, iV 0]), .d, .d, .d, .d, .d, .d, .f true (.agg [iV 0, iV 3, iV 3, iV 0, iV 0]), .d, .d, .d, .d, .v (iV 6), .d, .d, .d, .d, .d, .d, .d, .d, .f true (.bool true), .d, .d, .d, .d, .d, .f true (.agg [iV 6, iV 6, iV 1, iV 0, iV 0]), .d, .d, .d, .d, .d, .d, .f true (.agg [iV 0, iV 6, iV 3, iV 0, iV 0]), .d, .d, .d, .d, .v (iV 9), .d, .d, .d, .d, .d, .d, .d, .d, .f true (.bool true), .d, .d, .d, .d, .d, .f true (.agg [iV 9, iV 9, iV 1, iV 0, iV 0]), .d, .d, .d, .d, .d, .d, .f true (.agg [iV 0, iV 9, iV 3, iV 0, iV 0]), .d, .d, .d, .d, .v (iV 12), .d, .d, .d, .d, .d, .d, .d, .d, .f true (.bool true), .d, .d, .d, .d, .d, .f true (.agg [iV 12, iV 12, iV 1, iV 0, iV 0]), .d, .d, .d, .d, .d, .d, .f true (.agg [iV 0, iV 12, iV 3, iV 0, iV 0]), .d, .d, .d, .d, .v (iV 15), .d, .d, .d, .d, .d, .d, .d, .d, .f true (.bool true), .d, .d, .d, .d, .d, .f true (.agg [iV 15, iV 15, iV 1, iV 0, iV 0]), .d, .d, .d, .d, .d, .d, .f true (.agg [iV 0, iV 15, iV 3, iV 0, iV 0]), .d, .d, .d, .d, .v (iV 18), .d, .d, .d, .d, .d, .d, .d, .d, .f true (.bool true), .d, .d, .d, .d, .d, .f true (.agg [iV 18, iV 18, iV 1, iV 0, iV 0]), .d, .d, .d, .d, .d, .d, .f true (.agg [iV 0, iV 18, iV 3, iV 0, iV 0]), .d, .d, .d, .d, .v (iV 21), .d, .d, .d, .d, .d, .d, .d, .d, .f true (.bool true), .d, .d, .d, .d, .d, .f true (.agg [iV 21, iV 21, iV 1, iV 0, iV 0]), .d, .d, .d, .d, .d, .d, .f true (.agg [iV 0, iV 21, iV 3, iV 0, iV 0]), .d, .d, .d, .d, .v (iV 24), .d, .d, .d, .d, .d, .d, .d, .d, .f true (.bool true), .d, .d, .d, .d, .d, .f true (.agg [iV 24, iV 24, iV 1, iV 0, iV 0]), .d, .d, .d, .d, .d, .d, .f true (.agg [iV 0, iV 24, iV 3, iV 0, iV 0]), .d, .d, .d, .d, .v (iV 27), .d, .d, .d, .d, .d, .d, .d, .d, .f true (.bool true), .d, .d, .d, .d, .d, .f true (.agg [iV 27, iV 27, iV 1, iV 0, iV 0]), .d, .d, .d, .d, .d, .d, .f true (.agg [iV 0, iV 27, iV 3, iV 0, iV 0]), .d, .d, .d, .d, .v (iV 30), .d, .d, .d, .d, .d, .d, .d, .d, .f true (.bool true), .d, .d, .d, .d, .d, .f true (.agg [iV 30, iV 30, iV 1, iV 0, iV 0]), .d, .d, .d, .d, .d, .d, .f true (.agg [iV 0, iV 30, iV 3, iV 0, iV 0]), .d, .d, .d, .d, .v (iV 33), .d, .d, .d, .d, .d, .d, .d, .d, .f true (.bool true), .d, .d, .d, .d, .d, .f true (.agg [iV 33, iV 33, iV 1, iV 0, iV 0]), .d, .d, .d, .d, .d, .d, .f true (.agg [iV 0, iV 33, iV 3, iV 0, iV 0]), .d, .d, .d, .d, .v (iV 36), .d, .d, .d, .d, .d, .d, .d, .d, .f true (.bool true), .d, .d, .d, .d, .d, .f true (.agg [iV 36, iV 36, iV 1, iV 0, iV 0]), .d, .d, .d, .d, .d, .d, .f true (.agg [iV 0, iV 36, iV 3, iV 0, iV 0]), .d, .d, .d, .d, .v (iV 39), .d, .d, .d, .d, .d, .d, .d, .d, .f true (.bool true), .d, .d, .d, .d, .d, .f true (.agg [iV 39, iV 39, iV 1, iV 0, iV 0]), .d, .d, .d, .d, .d, .d, .f true (.agg [iV 0, iV 39, iV 3, iV 0, iV 0]), .d, .d, .d, .d, .v (iV 42), .d, .d, .d, .d, .d, .d, .d, .d, .f true (.bool true), .d, .d, .d, .d, .d, .f true (.agg [iV 42, iV 42, iV 1, iV 0, iV 0]), .d, .d, .d, .d, .d, .d, .f true (.agg [iV 0, iV 42, iV 3, iV 0, iV 0]), .d, .d, .d, .d, .v (iV 45), .d, .d, .d, .d, .d, .d, .d, .d, .f true (.bool true), .d, .d, .d, .d, .d, .f true (.agg [iV 45, iV 45, iV 1, iV 0, iV 0]), .d, .d, .d, .d, .d, .d, .f true (.agg [iV 0, iV 45, iV 3, iV 0, iV 0]), .d, .d, .d, .d, .v (iV 48), .d, .d, .d, .d, .d, .d, .d, .d, .f true (.bool true), .d, .d, .d, .d, .d, .f true (.agg [iV 48, iV 48, iV 1, iV 0, iV 0]), .d, .d, .d, .d, .d, .d, .f true (.agg [iV 0, iV 48, iV 3, iV 0, iV 0]), .d, .d, .d, .d, .v (iV 51), .d, .d, .d, .d, .d, .d, .d, .d, .f true (.bool true), .d, .d, .d, .d, .d, .f true (.agg [iV 51, iV 51, iV 1, iV 0, iV 0]), .d, .d, .d, .d, .d, .d, .f true (.agg [iV 0, iV 51, iV 3, iV 0, iV 0]), .d, .d, .d, .d, .v (iV 54), .d, .d, .d, .d, .d, .d, .d, .d, .f true (.bool true), .d, .d, .d, .d, .d, .f true (.agg [iV 54, iV 54, iV 1, iV 0, iV 0]), .d, .d, .d, .d, .d, .d, .f true (.agg [iV 0, iV 54, iV 3, iV 0, iV 0]), .d, .d, .d, .d, .v (iV 57), .d, .d, .d, .d, .d, .d, .d, .d, .f true (.bool true), .d, .d, .d, .d, .d, .f true (.agg [iV 57, iV 57, iV 1, iV 0, iV 0]), .d, .d, .d, .d, .d, .d, .f true (.agg [iV 0, iV 57, iV 3, iV 0, iV 0]), .d, .d, .d, .d, .v (iV 60), .d, .d, .d, .d, .d, .d, .d, .d, .f true (.bool true), .d, .d, .d, .d, .d, .f true (.agg [iV 60, iV 60, iV 1, iV 0, iV 0]), .d, .d, .d, .d, .d, .d, .f true (.agg [iV 0, iV 60, iV 3, iV 0, iV 0]), .d, .d, .d, .d, .v (iV 63), .d, .d, .d, .d, .d, .d, .d, .d, .f true (.bool true), .d, .d, .d, .d, .d, .f true (.agg [iV 63, iV 63, iV 1, iV 0, iV 0]), .d, .d, .d, .d, .d, .d, .f true (.agg [iV 0, iV 63, iV 3, iV 0, iV 0]), .d, .d, .d, .d, .v (iV 66), .d, .d, .d, .d, .d, .d, .d, .d, .f true (.bool true), .d, .d, .d, .d, .d, .f true (.agg [iV 66, iV 66, iV 1, iV 0, iV 0]), .d, .d, .d, .d, .d, .d, .f true (.agg [iV 0, iV 66, iV 3, iV 0, iV 0]), .d, .d, .d, .d, .v (iV 69), .d, .d, .d, .d, .d, .d, .d, .d, .f true (.bool true), .d, .d, .d, .d, .d, .f true (.agg [iV 69, iV 69, iV 1, iV 0, iV 0]), .d, .d, .d, .d, .d, .d, .f true (.agg [iV 0, iV 69, iV 3, iV 0, iV 0]), .d, .d, .d, .d, .v (iV 72), .d, .d, .d, .d, .d, .d, .d, .d, .f true (.bool true), .d, .d, .d, .d, .d, .f true (.agg [iV 72, iV 72, iV 1, iV 0, iV 0]), .d, .d, .d, .d, .d, .d, .f true (.agg [iV 0, iV 72, iV 3, iV 0, iV 0]), .d, .d, .d, .d, .v (iV 75), .d, .d, .d, .d, .d, .d, .d, .d, .f true (.bool true), .d, .d, .d, .d, .d, .f true (.agg [iV 75, iV 75, iV 1, iV 0, iV 0]), .d, .d, .d, .d, .d, .d, .f true (.agg [iV 0, iV 75, iV 3, iV 0, iV 0]), .d, .d, .d, .d, .v (iV 78), .d, .d, .d, .d, .d, .d, .d, .d, .f true (.bool true), .d, .d, .d, .d, .d, .f true (.agg [iV 78, iV 78, iV 1, iV 0, iV 0]), .d, .d, .d, .d, .d, .d, .f true (.agg [iV 0, iV 78, iV 3, iV 0, iV 0]), .d, .d, .d, .d, .v (iV 81), .d, .d, .d, .d, .d, .d, .d, .d, .f true (.bool true), .d, .d, .d, .d, .d, .f true (.agg [iV 81, iV 81, iV 1, iV 0, iV 0]), .d, .d, .d, .d, .d, .d, .f true (.agg [iV 0, iV 81, iV 3, iV 0, iV 0]), .d, .d, .d, .d, .v (iV 84), .d, .d, .d, .d, .d, .d, .d, .d, .d, .d] (ob := [_, _, (iV (IntKind.wrap .i64 (0 + 3)) : AV) = (iV 3 : AV), _, _, _, (iV (IntKind.wrap .i64 (3 + 3)) : AV) = (iV 6 : AV), _, _, _, (iV (IntKind.wrap .i64 (6 + 3)) : AV) = (iV 9 : AV), _, _, _, (iV (IntKind.wrap .i64 (9 + 3)) : AV) = (iV 12 : AV), _, _, _, (iV (IntKind.wrap .i64 (12 + 3)) : AV) = (iV 15 : AV), _, _, _, (iV (IntKind.wrap .i64 (15 + 3)) : AV) = (iV 18 : AV), _, _, _, (iV (IntKind.wrap .i64 (18 + 3)) : AV) = (iV 21 : AV), _, _, _, (iV (IntKind.wrap .i64 (21 + 3)) : AV) = (iV 24 : AV), _, _, _, (iV (IntKind.wrap .i64 (24 + 3)) : AV) = (iV 27 : AV), _, _, _, (iV (IntKind.wrap .i64 (27 + 3)) : AV) = (iV 30 : AV), _, _, _, (iV (IntKind.wrap .i64 (30 + 3)) : AV) = (iV 33 : AV), _, _, _, (iV (IntKind.wrap .i64 (33 + 3)) : AV) = (iV 36 : AV), _, _, _, (iV (IntKind.wrap .i64 (36 + 3)) : AV) = (iV 39 : AV), _, _, _, (iV (IntKind.wrap .i64 (39 + 3)) : AV) = (iV 42 : AV), _, _, _, (iV (IntKind.wrap .i64 (42 + 3)) : AV) = (iV 45 : AV), _, _, _, (iV (IntKind.wrap .i64 (45 + 3)) : AV) = (iV 48 : AV), _, _, _, (iV (IntKind.wrap .i64 (48 + 3)) : AV) = (iV 51 : AV), _, _, _, (iV (IntKind.wrap .i64 (51 + 3)) : AV) = (iV 54 : AV), _, _, _, (iV (IntKind.wrap .i64 (54 + 3)) : AV) = (iV 57 : AV), _, _, _, (iV (IntKind.wrap .i64 (57 + 3)) : AV) = (iV 60 : AV), _, _, _, (iV (IntKind.wrap .i64 (60 + 3)) : AV) = (iV 63 : AV), _, _, _, (iV (IntKind.wrap .i64 (63 + 3)) : AV) = (iV 66 : AV), _, _, _, (iV (IntKind.wrap .i64 (66 + 3)) : AV) = (iV 69 : AV), _, _, _, (iV (IntKind.wrap .i64 (69 + 3)) : AV) = (iV 72 : AV), _, _, _, (iV (IntKind.wrap .i64 (72 + 3)) : AV) = (iV 75 : AV), _, _, _, (iV (IntKind.wrap .i64 (75 + 3)) : AV) = (iV 78 : AV), _, _, _, (iV (IntKind.wrap .i64 (78 + 3)) : AV) = (iV 81 : AV), _, _, _, (iV (IntKind.wrap .i64 (81 + 3)) : AV) = (iV 84 : AV), (0 : Int) = 0, (81 : Int) = 81, (3 : Int) = 3, (0 : Int) = 0, (0 : Int) = 0, (true : Bool) = true]) ⟨rx36_5, rx35_6, rfl, rx36_7, rx35_8, rx37_16, rfl, rx36_17, rx35_18, rx37_24, rfl, rx36_25, rx35_26, rx37_32, rfl, rx36_33, rx35_34, rx37_40, rfl, rx36_41, rx35_42, rx37_48, rfl, rx36_49, rx35_50, rx37_56, rfl, rx36_57, rx35_58, rx37_64, rfl, rx36_65, rx35_66, rx37_72, rfl, rx36_73, rx35_74, rx37_80, rfl, rx36_81, rx35_82, rx37_88, rfl, rx36_89, rx35_90, rx37_96, rfl, rx36_97, rx35_98, rx37_104, rfl, rx36_105, rx35_106, rx37_112, rfl, rx36_113, rx35_114, rx37_120, rfl, rx36_121, rx35_122, rx37_128, rfl, rx36_129, rx35_130, rx37_136, rfl, rx36_137, rx35_138, rx37_144, rfl, rx36_145, rx35_146, rx37_152, rfl, rx36_153, rx35_154, rx37_160, rfl, rx36_161, rx35_162, rx37_168, rfl, rx36_169, rx35_170, rx37_176, rfl, rx36_177, rx35_178, rx37_184, rfl, rx36_185, rx35_186, rx37_192, rfl, rx36_193, rx35_194, rx37_200, rfl, rx36_201, rx35_202, rx37_208, rfl, rx36_209, rx35_210, rx37_216, rfl, rx36_217, rx35_218, rx37_224, rfl, rfl, rfl, rfl, rfl, rfl, rfl, trivial⟩

set_option maxHeartbeats 4000000 in
theorem rx68_226   : FnF Try.prog 68 true [.agg [iA 0, iA 81, iA 3, iA 0, iA 0], .agg [iA 0, iA 81, iA 1, iA 0, iA 255]] (.tuple [.agg [iA 0, iA 81, iA 3, iA 0, iA 0], .bool true]) :=
  fn_e2 Try.func68 400 [.d, .d, .d, .d, .d, .d, .d, .d, .v (iV 0), .d, .d, .f true (iV 28), .d, .d, .d, .d, .d, .f true (.tuple [.agg [iV 0, iV 81, iV 3, iV 0, iV 0], .bool true]), .d, .d, .d, .d] (ob := [(iV (bits .and .i64 0 255) : AV) = (iV 0 : AV), _, _, (0 : Int) = 0, (81 : Int) = 81, (3 : Int) = 3, (0 : Int) = 0, (0 : Int) = 0, (true : Bool) = true]) ⟨rfl, rx76_4, rx77_225, rfl, rfl, rfl, rfl, rfl, rfl, trivial⟩

set_option maxHeartbeats 4000000 in
theorem ru_ap1   : FnL Try.prog 54 [.mp []] [.map 0, .list [.agg [.int .i64 1, .int .i64 1, .int .i64 0, .int .i64 6, .int .i64 0, .int .i64 9, .int .i64 0, .int .i64 9, .int .i64 0, .int .i64 81]], .int .i64 6, .agg [.int .i64 0, .int .i64 9, .int .i64 3, .int .i64 0, .int .i64 0], .agg [.int .i64 0, .int .i64 9, .int .i64 1, .int .i64 0, .int .i64 0], .agg [.int .i64 0, .int .i64 81, .int .i64 3, .int .i64 0, .int .i64 0]] (.agg [.int .i64 0, .int .i64 81, .int .i64 3, .int .i64 0, .int .i64 0]) [.mp []] := by
  refine fn_flowL Try.func54 (st := (stX (.tuple []) 78 [(0, .map 0), (1, .list [.agg [iV 1, iV 1, iV 0, iV 6, iV 0, iV 9, iV 0, iV 9, iV 0, iV 81]]), (2, iV 6), (3, .agg [iV 0, iV 9, iV 3, iV 0, iV 0]), (4, .agg [iV 0, iV 9, iV 1, iV 0, iV 0]), (5, .agg [iV 0, iV 81, iV 3, iV 0, iV 0])] [.mp []])) ?_
  refine OkP.e 400 [.d, .d, .d, .d, .d, .v (iV 1), .d, .d, .d, .d, .d, .d, .d, .d, .d, .d, .d, .d, .d, .d, .d, .d, .d, .d, .d, .d, .d, .d, .d, .d, .d, .d, .d, .d, .d, .d, .d, .d, .d, .d, .d, .d, .d, .d, .d, .d, .d, .d, .d, .d, .d, .d, .f true (.agg [iV 0, iV 81, iV 1, iV 0, iV 255]), .f true (.tuple [.agg [iV 0, iV 81, iV 3, iV 0, iV 0], .bool true]), .d, .d, .d, .d, .d, .d, .d, .d, .d, .d, .v (.bool false), .d, .d, .v (iV 1), .d, .d, .d, .d, .d] [12] [0, 4] (st' := (stX .any 78 [(12, .ptr 1 0)] [.mp [], .cells [iV 0, iV 81, iV 3, iV 0, iV 0]])) (e := .ret) (ob := [∀ e ∈ ([] : List AV), idsOf e = [], (iV (([.agg [iV 1, iV 1, iV 0, iV 6, iV 0, iV 9, iV 0, iV 9, iV 0, iV 81]] : List AV).length : Int) : AV) = (iV 1 : AV), 0 ≤ (0 : Int), _, _, (.bool (!(((0 : Int) == 0) && (((81 : Int) == 81) && (((3 : Int) == 3) && (((0 : Int) == 0) && (((0 : Int) == 0) && true)))))) : AV) = (.bool false : AV), (iV (IntKind.wrap .i64 (0 + 1)) : AV) = (iV 1 : AV)]) ⟨(by simp [idsOf, idsL]), rfl, (by decide), rx69_3, rx68_226, (bNotF (bAnd (eT (by omega)) (bAnd (eT (by omega)) (bAnd (eT (by omega)) (bAnd (eT (by omega)) (bAnd (eT (by omega)) rfl)))))), rfl, trivial⟩ ?_
  exact ⟨.inr rfl, finL_of (r0 := .agg [iV 0, iV 81, iV 3, iV 0, iV 0]) (R0 := [.mp []]) (ob := [∀ e ∈ ([] : List AV), idsOf e = []]) 1 ⟨(by simp [idsOf, idsL]), trivial⟩ (rfl) (rfl)⟩

set_option maxHeartbeats 4000000 in
theorem rx35_227   : FnF Try.prog 35 true [iA 0, iA 50, iA 1, iA 255] (.agg [iA 0, iA 50, iA 1, iA 0, iA 255]) :=
  fn_e2 Try.func35 400 [.d, .d, .d, .d, .d, .d, .d, .v (iV 50), .d, .v (iV 0), .v (iV 50), .d, .d, .d, .d, .d, .d, .d, .d, .d, .d, .f true (iV 0), .d, .d, .d] (ob := [(iV (IntKind.wrap .i64 (50 - 0)) : AV) = (iV 50 : AV), (iV ((50 : Int).tmod 1) : AV) = (iV 0 : AV), (1 : Int) ≠ 0, (iV (IntKind.wrap .i64 (50 - 0)) : AV) = (iV 50 : AV), _, (0 : Int) = 0, (50 : Int) = 50, (1 : Int) = 1, (0 : Int) = 0, (255 : Int) = 255]) ⟨rfl, rfl, (by decide), rfl, rx56_1, rfl, rfl, rfl, rfl, rfl, trivial⟩

set_option maxHeartbeats 4000000 in
theorem rx69_228   : FnF Try.prog 69 true [.agg [iA 0, iA 50, iA 255]] (.agg [iA 0, iA 50, iA 1, iA 0, iA 255]) :=
  fn_e2 Try.func69 400 [.d, .d, .d, .d, .d, .d, .d, .d, .f true (.agg [iV 0, iV 50, iV 1, iV 0, iV 255]), .d] (ob := [_, (0 : Int) = 0, (50 : Int) = 50, (1 : Int) = 1, (0 : Int) = 0, (255 : Int) = 255]) ⟨rx35_227, rfl, rfl, rfl, rfl, rfl, trivial⟩

set_option maxHeartbeats 4000000 in
theorem rx36_229   : FnF Try.prog 36 true [.agg [iA 0, iA 50, iA 1, iA 0, iA 255], iA 0] (.bool true) :=
  fn_e2 Try.func36 400 [.d, .d, .d, .d, .d, .d, .d, .d, .d, .d, .d, .d, .d, .d, .d, .d, .v (iV 0), .d, .d, .v (iV 0), .d, .d, .d] (ob := [(iV (IntKind.wrap .i64 (0 - 0)) : AV) = (iV 0 : AV), (iV ((0 : Int).tmod 1) : AV) = (iV 0 : AV), (1 : Int) ≠ 0, (true : Bool) = true]) ⟨rfl, rfl, (by decide), rfl, trivial⟩

set_option maxHeartbeats 4000000 in
theorem rx36_230   : FnF Try.prog 36 true [.agg [iA 0, iA 50, iA 1, iA 0, iA 255], iA 3] (.bool true) :=
  fn_e2 Try.func36 400 [.d, .d, .d, .d, .d, .d, .d, .d, .d, .d, .d, .d, .d, .d, .d, .d, .v (iV 3), .d, .d, .v (iV 0), .d, .d, .d] (ob := [(iV (IntKind.wrap .i64 (3 - 0)) : AV) = (iV 3 : AV), (iV ((3 : Int).tmod 1) : AV) = (iV 0 : AV), (1 : Int) ≠ 0, (true : Bool) = true]) ⟨rfl, rfl, (by decide), rfl, trivial⟩

set_option maxHeartbeats 4000000 in
theorem rx36_231   : FnF Try.prog 36 true [.agg [iA 0, iA 50, iA 1, iA 0, iA 255], iA 6] (.bool true) :=
  fn_e2 Try.func36 400 [.d, .d, .d, .d, .d, .d, .d, .d, .d, .d, .d, .d, .d, .d, .d, .d, .v (iV 6), .d, .d, .v (iV 0), .d, .d, .d] (ob := [(iV (IntKind.wrap .i64 (6 - 0)) : AV) = (iV 6 : AV), (iV ((6 : Int).tmod 1) : AV) = (iV 0 : AV), (1 : Int) ≠ 0, (true : Bool) = true]) ⟨rfl, rfl, (by decide), rfl, trivial⟩

set_option maxHeartbeats 4000000 in
theorem rx36_232   : FnF Try.prog 36 true [.agg [iA 0, iA 50, iA 1, iA 0, iA 255], iA 9] (.bool true) :=
  fn_e2 Try.func36 400 [.d, .d, .d, .d, .d, .d, .d, .d, .d, .d, .d, .d, .d, .d, .d, .d, .v (iV 9), .d, .d, .v (iV 0), .d, .d, .d] (ob := [(iV (IntKind.wrap .i64 (9 - 0)) : AV) = (iV 9 : AV), (iV ((9 : Int).tmod 1) : AV) = (iV 0 : AV), (1 : Int) ≠ 0, (true : Bool) = true]) ⟨rfl, rfl, (by decide), rfl, trivial⟩

set_option maxHeartbeats 4000000 in
theorem rx36_233   : FnF Try.prog 36 true [.agg [iA 0, iA 50, iA 1, iA 0, iA 255], iA 12] (.bool true) :=
  fn_e2 Try.func36 400 [.d, .d, .d, .d, .d, .d, .d, .d, .d, .d, .d, .d, .d, .d, .d, .d, .v (iV 12), .d, .d, .v (iV 0), .d, .d, .d] (ob := [(iV (IntKind.wrap .i64 (12 - 0)) : AV) = (iV 12 : AV), (iV ((12 : Int).tmod 1) : AV) = (iV 0 : AV), (1 : Int) ≠ 0, (true : Bool) = true]) ⟨rfl, rfl, (by decide), rfl, trivial⟩

set_option maxHeartbeats 4000000 in
theorem rx36_234   : FnF Try.prog 36 true [.agg [iA 0, iA 50, iA 1, iA 0, iA 255], iA 15] (.bool true) :=
  fn_e2 Try.func36 400 [.d, .d, .d, .d, .d, .d, .d, .d, .d, .d, .d, .d, .d, .d, .d, .d, .v (iV 15), .d, .d, .v (iV 0), .d, .d, .d] (ob := [(iV (IntKind.wrap .i64 (15 - 0)) : AV) = (iV 15 : AV), (iV ((15 : Int).tmod 1) : AV) = (iV 0 : AV), (1 : Int) ≠ 0, (true : Bool) = true]) ⟨rfl, rfl, (by decide), rfl, trivial⟩

set_option maxHeartbeats 4000000 in
theorem rx36_235   : FnF Try.prog 36 true [.agg [iA 0, iA 50, iA 1, iA 0, iA 255], iA 18] (.bool true) :=
  fn_e2 Try.func36 400 [.d, .d, .d, .d, .d, .d, .d, .d, .d, .d, .d, .d, .d, .d, .d, .d, .v (iV 18), .d, .d, .v (iV 0), .d, .d, .d] (ob := [(iV (IntKind.wrap .i64 (18 - 0)) : AV) = (iV 18 : AV), (iV ((18 : Int).tmod 1) : AV) = (iV 0 : AV), (1 : Int) ≠ 0, (true : Bool) = true]) ⟨rfl, rfl, (by decide), rfl, trivial⟩

set_option maxHeartbeats 4000000 in
theorem rx36_236   : FnF Try.prog 36 true [.agg [iA 0, iA 50, iA 1, iA 0, iA 255], iA 21] (.bool true) :=
  fn_e2 Try.func36 400 [.d, .d, .d, .d, .d, .d, .d, .d, .d, .d, .d, .d, .d, .d, .d, .d, .v (iV 21), .d, .d, .v (iV 0), .d, .d, .d] (ob := [(iV (IntKind.wrap .i64 (21 - 0)) : AV) = (iV 21 : AV), (iV ((21 : Int).tmod 1) : AV) = (iV 0 : AV), (1 : Int) ≠ 0, (true : Bool) = true]) ⟨rfl, rfl, (by decide), rfl, trivial⟩

set_option maxHeartbeats 4000000 in
theorem rx36_237   : FnF Try.prog 36 true [.agg [iA 0, iA 50, iA 1, iA 0, iA 255], iA 24] (.bool true) :=
  fn_e2 Try.func36 400 [.d, .d, .d, .d, .d, .d, .d, .d, .d, .d, .d, .d, .d, .d, .d, .d, .v (iV 24), .d, .d, .v (iV 0), .d, .d, .d] (ob := [(iV (IntKind.wrap .i64 (24 - 0)) : AV) = (iV 24 : AV), (iV ((24 : Int).tmod 1) : AV) = (iV 0 : AV), (1 : Int) ≠ 0, (true : Bool) = true]) ⟨rfl, rfl, (by decide), rfl, trivial⟩

set_option maxHeartbeats 4000000 in
theorem rx36_238   : FnF Try.prog 36 true [.agg [iA 0, iA 50, iA 1, iA 0, iA 255], iA 27] (.bool true) :=
  fn_e2 Try.func36 400 [.d, .d, .d, .d, .d, .d, .d, .d, .d, .d, .d, .d, .d, .d, .d, .d, .v (iV 27), .d, .d, .v (iV 0), .d, .d, .d] (ob := [(iV (IntKind.wrap .i64 (27 - 0)) : AV) = (iV 27 : AV), (iV ((27 : Int).tmod 1) : AV) = (iV 0 : AV), (1 : Int) ≠ 0, (true : Bool) = true]) ⟨rfl, rfl, (by decide), rfl, trivial⟩

set_option maxHeartbeats 4000000 in
theorem rx36_239   : FnF Try.prog 36 true [.agg [iA 0, iA 50, iA 1, iA 0, iA 255], iA 30] (.bool true) :=
  fn_e2 Try.func36 400 [.d, .d, .d, .d, .d, .d, .d, .d, .d, .d, .d, .d, .d, .d, .d, .d, .v (iV 30), .d, .d, .v (iV 0), .d, .d, .d] (ob := [(iV (IntKind.wrap .i64 (30 - 0)) : AV) = (iV 30 : AV), (iV ((30 : Int).tmod 1) : AV) = (iV 0 : AV), (1 : Int) ≠ 0, (true : Bool) = true]) ⟨rfl, rfl, (by decide), rfl, trivial⟩

set_option maxHeartbeats 4000000 in
theorem rx36_240   : FnF Try.prog 36 true [.agg [iA 0, iA 50, iA 1, iA 0, iA 255], iA 33] (.bool true) :=
  fn_e2 Try.func36 400 [.d, .d, .d, .d, .d, .d, .d, .d, .d, .d, .d, .d, .d, .d, .d, .d, .v (iV 33), .d, .d, .v (iV 0), .d, .d, .d] (ob := [(iV (IntKind.wrap .i64 (33 - 0)) : AV) = (iV 33 : AV), (iV ((33 : Int).tmod 1) : AV) = (iV 0 : AV), (1 : Int) ≠ 0, (true : Bool) = true]) ⟨rfl, rfl, (by decide), rfl, trivial⟩

set_option maxHeartbeats 4000000 in
theorem rx36_241   : FnF Try.prog 36 true [.agg [iA 0, iA 50, iA 1, iA 0, iA 255], iA 36] (.bool true) :=
  fn_e2 Try.func36 400 [.d, .d, .d, .d, .d, .d, .d, .d, .d, .d, .d, .d, .d, .d, .d, .d, .v (iV 36), .d, .d, .v (iV 0), .d, .d, .d] (ob := [(iV (IntKind.wrap .i64 (36 - 0)) : AV) = (iV 36 : AV), (iV ((36 : Int).tmod 1) : AV) = (iV 0 : AV), (1 : Int) ≠ 0, (true : Bool) = true]) ⟨rfl, rfl, (by decide), rfl, trivial⟩

set_option maxHeartbeats 4000000 in
theorem rx36_242   : FnF Try.prog 36 true [.agg [iA 0, iA 50, iA 1, iA 0, iA 255], iA 39] (.bool true) :=
  fn_e2 Try.func36 400 [.d, .d, .d, .d, .d, .d, .d, .d, .d, .d, .d, .d, .d, .d, .d, .d, .v (iV 39), .d, .d, .v (iV 0), .d, .d, .d] (ob := [(iV (IntKind.wrap .i64 (39 - 0)) : AV) = (iV 39 : AV), (iV ((39 : Int).tmod 1) : AV) = (iV 0 : AV), (1 : Int) ≠ 0, (true : Bool) = true]) ⟨rfl, rfl, (by decide), rfl, trivial⟩

set_option maxHeartbeats 4000000 in
theorem rx36_243   : FnF Try.prog 36 true [.agg [iA 0, iA 50, iA 1, iA 0, iA 255], iA 42] (.bool true) :=
  fn_e2 Try.func36 400 [.d, .d, .d, .d, .d, .d, .d, .d, .d, .d, .d, .d, .d, .d, .d, .d, .v (iV 42), .d, .d, .v (iV 0), .d, .d, .d] (ob := [(iV (IntKind.wrap .i64 (42 - 0)) : AV) = (iV 42 : AV), (iV ((42 : Int).tmod 1) : AV) = (iV 0 : AV), (1 : Int) ≠ 0, (true : Bool) = true]) ⟨rfl, rfl, (by decide), rfl, trivial⟩

set_option maxHeartbeats 4000000 in
theorem rx36_244   : FnF Try.prog 36 true [.agg [iA 0, iA 50, iA 1, iA 0, iA 255], iA 45] (.bool true) :=
  fn_e2 Try.func36 400 [.d, .d, .d, .d, .d, .d, .d, .d, .d, .d, .d, .d, .d, .d, .d, .d, .v (iV 45), .d, .d, .v (iV 0), .d, .d, .d] (ob := [(iV (IntKind.wrap .i64 (45 - 0)) : AV) = (iV 45 : AV), (iV ((45 : Int).tmod 1) : AV) = (iV 0 : AV), (1 : Int) ≠ 0, (true : Bool) = true]) ⟨rfl, rfl, (by decide), rfl, trivial⟩

set_option maxHeartbeats 4000000 in
theorem rx36_245   : FnF Try.prog 36 true [.agg [iA 0, iA 50, iA 1, iA 0, iA 255], iA 48] (.bool true) :=
  fn_e2 Try.func36 400 [.d, .d, .d, .d, .d, .d, .d, .d, .d, .d, .d, .d, .d, .d, .d, .d, .v (iV 48), .d, .d, .v (iV 0), .d, .d, .d] (ob := [(iV (IntKind.wrap .i64 (48 - 0)) : AV) = (iV 48 : AV), (iV ((48 : Int).tmod 1) : AV) = (iV 0 : AV), (1 : Int) ≠ 0, (true : Bool) = true]) ⟨rfl, rfl, (by decide), rfl, trivial⟩

set_option maxHeartbeats 4000000 in
theorem rx36_246   : FnF Try.prog 36 true [.agg [iA 0, iA 50, iA 1, iA 0, iA 255], iA 51] (.bool false) :=
  fn_e2 Try.func36 400 [.d, .d, .d, .d, .d, .d, .d, .d, .d, .d, .d, .d, .d, .d, .d, .d, .d, .d, .d, .d, .d, .d, .d] (ob := [(false : Bool) = false]) ⟨rfl, trivial⟩

set_option maxHeartbeats 4000000 in
theorem rx36_247   : FnF Try.prog 36 true [.agg [iA 0, iA 50, iA 1, iA 0, iA 255], iA 54] (.bool false) :=
  fn_e2 Try.func36 400 [.d, .d, .d, .d, .d, .d, .d, .d, .d, .d, .d, .d, .d, .d, .d, .d, .d, .d, .d, .d, .d, .d, .d] (ob := [(false : Bool) = false]) ⟨rfl, trivial⟩

set_option maxHeartbeats 4000000 in
theorem rx36_248   : FnF Try.prog 36 true [.agg [iA 0, iA 50, iA 1, iA 0, iA 255], iA 57] (.bool false) :=
  fn_e2 Try.func36 400 [.d, .d, .d, .d, .d, .d, .d, .d, .d, .d, .d, .d, .d, .d, .d, .d, .d, .d, .d, .d, .d, .d, .d] (ob := [(false : Bool) = false]) ⟨rfl, trivial⟩

set_option maxHeartbeats 4000000 in
theorem rx36_249   : FnF Try.prog 36 true [.agg [iA 0, iA 50, iA 1, iA 0, iA 255], iA 60] (.bool false) :=
  fn_e2 Try.func36 400 [.d, .d, .d, .d, .d, .d, .d, .d, .d, .d, .d, .d, .d, .d, .d, .d, .d, .d, .d, .d, .d, .d, .d] (ob := [(false : Bool) = false]) ⟨rfl, trivial⟩

set_option maxHeartbeats 4000000 in
theorem rx36_250   : FnF Try.prog 36 true [.agg [iA 0, iA 50, iA 1, iA 0, iA 255], iA 63] (.bool false) :=
  fn_e2 Try.func36 400 [.d, .d, .d, .d, .d, .d, .d, .d, .d, .d, .d, .d, .d, .d, .d, .d, .d, .d, .d, .d, .d, .d, .d] (ob := [(false : Bool) = false]) ⟨rfl, trivial⟩

set_option maxHeartbeats 4000000 in
theorem rx36_251   : FnF Try.prog 36 true [.agg [iA 0, iA 50, iA 1, iA 0, iA 255], iA 66] (.bool false) :=
  fn_e2 Try.func36 400 [.d, .d, .d, .d, .d, .d, .d, .d, .d, .d, .d, .d, .d, .d, .d, .d, .d, .d, .d, .d, .d, .d, .d] (ob := [(false : Bool) = false]) ⟨rfl, trivial⟩

set_option maxHeartbeats 4000000 in
theorem rx36_252   : FnF Try.prog 36 true [.agg [iA 0, iA 50, iA 1, iA 0, iA 255], iA 69] (.bool false) :=
  fn_e2 Try.func36 400 [.d, .d, .d, .d, .d, .d, .d, .d, .d, .d, .d, .d, .d, .d, .d, .d, .d, .d, .d, .d, .d, .d, .d] (ob := [(false : Bool) = false]) ⟨rfl, trivial⟩

set_option maxHeartbeats 4000000 in
theorem rx36_253   : FnF Try.prog 36 true [.agg [iA 0, iA 50, iA 1, iA 0, iA 255], iA 72] (.bool false) :=
  fn_e2 Try.func36 400 [.d, .d, .d, .d, .d, .d, .d, .d, .d, .d, .d, .d, .d, .d, .d, .d, .d, .d, .d, .d, .d, .d, .d] (ob := [(false : Bool) = false]) ⟨rfl, trivial⟩

set_option maxHeartbeats 4000000 in
theorem rx36_254   : FnF Try.prog 36 true [.agg [iA 0, iA 50, iA 1, iA 0, iA 255], iA 75] (.bool false) :=
  fn_e2 Try.func36 400 [.d, .d, .d, .d, .d, .d, .d, .d, .d, .d, .d, .d, .d, .d, .d, .d, .d, .d, .d, .d, .d, .d, .d] (ob := [(false : Bool) = false]) ⟨rfl, trivial⟩

set_option maxHeartbeats 4000000 in
theorem rx36_255   : FnF Try.prog 36 true [.agg [iA 0, iA 50, iA 1, iA 0, iA 255], iA 78] (.bool false) :=
  fn_e2 Try.func36 400 [.d, .d, .d, .d, .d, .d, .d, .d, .d, .d, .d, .d, .d, .d, .d, .d, .d, .d, .d, .d, .d, .d, .d] (ob := [(false : Bool) = false]) ⟨rfl, trivial⟩

set_option maxHeartbeats 4000000 in
theorem rx36_256   : FnF Try.prog 36 true [.agg [iA 0, iA 50, iA 1, iA 0, iA 255], iA 81] (.bool false) :=
  fn_e2 Try.func36 400 [.d, .d, .d, .d, .d, .d, .d, .d, .d, .d, .d, .d, .d, .d, .d, .d, .d, .d, .d, .d, .d, .d, .d] (ob := [(false : Bool) = false]) ⟨rfl, trivial⟩

set_option maxHeartbeats 4000000 in
theorem rx77_257   : FnF Try.prog 77 true [.agg [iA 0, iA 81, iA 3, iA 0, iA 0], .agg [iA 0, iA 50, iA 1, iA 0, iA 255], iA 0] (.tuple [.agg [iA 0, iA 48, iA 3, iA 0, iA 0], .bool true]) :=
  fn_e2 Try.func77 400 [.d, .d, .d, .d, .d, .d, .d, .d, .d, .d, .d, .d, .d, .d, .d, .d, .f true (.bool true), .d, .d, .d, .d, .d, .f true (.agg [iV 0, iV 0, iV 1, iV 0, iV 0]), .d, .d, .d, .d, .d, .d, .d, .d, .d, .d, .v (iV 3), .d, .d, .d, .d, .d, .d, .d, .d, .f true (.bool true), .d, .d, .d, .d, .d, .f true (.agg [iV 3, iV 3, iV 1, iV 0, iV 0]), .d, .d, .d, .d, .d, .d, .f true (.agg [iV 0, iV 3, iV 3, iV 0, iV 0]), .d, .d, .d, .d, .v (iV 6), .d, .d, .d, .d, .d, .d, .d, .d, .f true (.bool true), .d, .d, .d, .d, .d, .f true (.agg [iV 6, iV 6, iV 1, iV 0, iV 0]), .d, .d, .d, .d, .d, .d, .f true (.agg [iV 0, iV 6, iV 3, iV 0, iV 0]), .d, .d, .d, .d, .v (iV 9), .d, .d, .d, .d, .d, .d, .d, .d, .f true (.bool true), .d, .d, .d, .d, .d, .f true (.agg [iV 9, iV 9, iV 1, iV 0, iV 0]), .d, .d, .d, .d, .d, .d, .f true (.agg [iV 0, iV 9, iV 3, iV 0, iV 0]), .d, .d, .d, .d, .v (iV 12), .d, .d, .d, .d, .d, .d, .d, .d, .f true (.bool true), .d, .d, .d, .d, .d, .f true (.agg [iV 12, iV 12, iV 1, iV 0, iV 0]), .d, .d, .d, .d, .d, .d, .f true (.agg [iV 0, iV 12, iV 3, iV 0, iV 0]), .d, .d, .d, .d, .v (iV 15), .d, .d, .d, .d, .d, .d, .d, .d, .f true (.bool true), .d, .d, .d, .d, .d, .f true (.agg [iV 15, iV 15, iV 1, iV 0, iV 0]), .d, .d, .d, .d, .d, .d, .f true (.agg [iV 0, iV 15, iV 3, iV 0, iV 0]), .d, .d, .d, .d, .v (iV 18), .d, .d, .d, .d, .d, .d, .d, .d, .f true (.bool true), .d, .d, .d, .d, .d, .f true (.agg [iV 18, iV 18, iV 1, iV 0, iV 0]), .d, .d, .d, .d, .d, .d, .f true (.agg [iV 0, iV 18, iV 3, iV 0, iV 0]), .d, .d, .d, .d, .v (iV 21), .d, .d, .d, .d, .d, .d, .d, .d, .f true (.bool true), .d, .d, .d, .d, .d, .f true (.agg [iV 21, iV 21, iV 1, iV 0, iV 0]), .d, .d, .d, .d, .d, .d, .f true (.agg [iV 0, iV 21, iV 3, iV 0, iV 0]), .d, .d, .d, .d, .v (iV 24), .d, .d, .d, .d, .d, .d, .d, .d, .f true (.bool true), .d, .d, .d, .d, .d, .f true (.agg [iV 24, iV 24, iV 1, iV 0, iV 0]), .d, .d, .d, .d, .d, .d, .f true (.agg [iV 0, iV 24, iV 3, iV 0, iV 0]), .d, .d, .d, .d, .v (iV 27), .d, .d, .d, .d, .d, .d, .d, .d, .f true (.bool true), .d, .d, .d, .d, .d, .f true (.agg [iV 27, iV 27, iV 1, iV 0, iV 0]), .d, .d, .d, .d, .d, .d, .f true (.agg [iV 0, iV 27, iV 3, iV 0, iV 0]), .d, .d, .d, .d, .v (iV 30), .d, .d, .d, .d, .d, .d, .d, .d, .f true (.bool true), .d, .d, .d, .d, .d, .f true (.agg [iV 30, iV 30, iV 1, iV 0, iV 0]), .d, .d, .d, .d, .d, .d, .f true (.agg [iV 0, iV 30, iV 3, iV 0, iV 0]), .d, .d, .d, .d, .v (iV 33), .d, .d, .d, .d, .d, .d, .d, .d, .f true (.bool true), .d, .d, .d, .d, .d, .f true (.agg [iV 33, iV 33, iV 1, iV 0, iV 0]), .d, .d, .d, .d, .d, .d, .f true (.agg [iV 0, iV 33, iV 3, iV 0, iV 0]), .d, .d, .d, .d, .v (iV 36), .d, .d, .d, .d, .d, .d, .d, .d, .f true (.bool true), .d, .d, .d, .d, .d, .f true (.agg [iV 36, iV 36, iV 1, iV 0, iV 0]), .d, .d, .d, .d, .d, .d, .f true (.agg [iV 0, iV 36, iV 3, iV 0, iV 0]), .d, .d, .d, .d, .v (iV 39), .d, .d, .d, .d, .d, .d, .d, .d, .f true (.bool true), .d, .d, .d, .d, .d, .f true (.agg [iV 39, iV 39, iV 1, iV 0, iV 0]), .d, .d, .d, .d, .d, .d, .f true (.agg [iV 0, iV 39, iV 3, iV 0, iV 0]), .d, .d, .d, .d, .v (iV 42), .d, .d, .d, .d, .d, .d, .d, .d, .f true (.bool true), .d, .d, .d, .d, .d, .f true (.agg [iV 42, iV 42, iV 1, iV 0, iV 0]), .d, .d, .d, .d, .d, .d, .f true (.agg [iV 0, iV 42, iV 3, iV 0, iV 0]), .d, .d, .d, .d, .v (iV 45), .d, .d, .d, .d, .d, .d, .d, .d, .f true (.bool true), .d, .d, .d, .d, .d, .f true (.agg [iV 45, iV 45, iV 1, iV 0, iV 0]), .d, .d, .d, .d, .d, .d, .f true (.agg [iV 0, iV 45, iV 3, iV 0, iV 0]), .d, .d, .d, .d, .v (iV 48), .d, .d, .d, .d, .d, .d, .d, .d, .f true (.bool true), .d, .d, .d, .d, .d, .f true (.agg [iV 48, iV 48, iV 1, iV 0, iV 0]), .d, .d, .d, .d, .d, .d, .f true (.agg [iV 0, iV 48, iV 3, iV 0, iV 0]), .d, .d, .d, .d, .v (iV 51), .d, .d, .d, .d, .d, .d, .d, .d, .f true (.bool false), .d, .d, .d, .d, .d, .v (iV 54), .d, .d, .d, .d, .d, .d, .d, .d, .f true (.bool false), .d, .d, .d, .d, .d, .v (iV 57), .d, .d, .d, .d, .d, .d, .d, .d, .f true (.bool false), .d, .d, .d, .d, .d, .v (iV 60), .d, .d, .d, .d, .d, .d, .d, .d, .f true (.bool false), .d, .d, .d, .d, .d, .v (iV 63), .d, .d, .d, .d, .d, .d, .d, .d, .f true (.bool false), .d, .d, .d, .d, .d, .v (iV 66), .d, .d, .d, .d, .d, .d, .d, .d, .f true (.bool false), .d, .d, .d, .d, .d, .v (iV 69), .d, .d, .d, .d, .d, .d, .d, .d, .f true (.bool false), .d, .d, .d, .d, .d, .v (iV 72), .d, .d, .d, .d, .d, .d, .d, .d, .f true (.bool false), .d, .d, .d, .d, .d, .v (iV 75), .d, .d, .d, .d, .d, .d, .d, .d, .f true (.bool false), .d, .d, .d, .d, .d, .v (iV 78), .d, .d, .d, .d, .d, .d, .d, .d, .f true (.bool false), .d, .d, .d, .d, .d, .v (iV 81), .d, .d, .d, .d, .d, .d, .d, .d, .f true (.bool false), .d, .d, .d, .d, .d, .v (iV 84), .d, .d, .d, .d, .d, .d, .d, .d, .d, .d] (ob := [_, _, (iV (IntKind.wrap .i64 (0 + 3)) : AV) = (iV 3 : AV), _, _, _, (iV (IntKind.wrap .i64 (3 + 3)) : AV) = (iV 6 : AV), _, _, _, (iV (IntKind.wrap .i64 (6 + 3)) : AV) = (iV 9 : AV), _, _, _, (iV (IntKind.wrap .i64 (9 + 3)) : AV) = (iV 12 : AV), _, _, _, (iV (IntKind.wrap .i64 (12 + 3)) : AV) = (iV 15 : AV), _, _, _, (iV (IntKind.wrap .i64 (15 + 3)) : AV) = (iV 18 : AV), _, _, _, (iV (IntKind.wrap .i64 (18 + 3)) : AV) = (iV 21 : AV), _, _, _, (iV (IntKind.wrap .i64 (21 + 3)) : AV) = (iV 24 : AV), _, _, _, (iV (IntKind.wrap .i64 (24 + 3)) : AV) = (iV 27 : AV), _, _, _, (iV (IntKind.wrap .i64 (27 + 3)) : AV) = (iV 30 : AV), _, _, _, (iV (IntKind.wrap .i64 (30 + 3)) : AV) = (iV 33 : AV), _, _, _, (iV (IntKind.wrap .i64 (33 + 3)) : AV) = (iV 36 : AV), _, _, _, (iV (IntKind.wrap .i64 (36 + 3)) : AV) = (iV 39 : AV), _, _, _, (iV (IntKind.wrap .i64 (39 + 3)) : AV) = (iV 42 : AV), _, _, _, (iV (IntKind.wrap .i64 (42 + 3)) : AV) = (iV 45 : AV), _, _, _, (iV (IntKind.wrap .i64 (45 + 3)) : AV) = (iV 48 : AV), _, _, _, (iV (IntKind.wrap .i64 (48 + 3)) : AV) = (iV 51 : AV), _, (iV (IntKind.wrap .i64 (51 + 3)) : AV) = (iV 54 : AV), _, (iV (IntKind.wrap .i64 (54 + 3)) : AV) = (iV 57 : AV), _, (iV (IntKind.wrap .i64 (57 + 3)) : AV) = (iV 60 : AV), _, (iV (IntKind.wrap .i64 (60 + 3)) : AV) = (iV 63 : AV), _, (iV (IntKind.wrap .i64 (63 + 3)) : AV) = (iV 66 : AV), _, (iV (IntKind.wrap .i64 (66 + 3)) : AV) = (iV 69 : AV), _, (iV (IntKind.wrap .i64 (69 + 3)) : AV) = (iV 72 : AV), _, (iV (IntKind.wrap .i64 (72 + 3)) : AV) = (iV 75 : AV), _, (iV (IntKind.wrap .i64 (75 + 3)) : AV) = (iV 78 : AV), _, (iV (IntKind.wrap .i64 (78 + 3)) : AV) = (iV 81 : AV), _, (iV (IntKind.wrap .i64 (81 + 3)) : AV) = (iV 84 : AV), (0 : Int) = 0, (48 : Int) = 48, (3 : Int) = 3, (0 : Int) = 0, (0 : Int) = 0, (true : Bool) = true]) ⟨rx36_229, rx35_6, rfl, rx36_230, rx35_8, rx37_16, rfl, rx36_231, rx35_18, rx37_24, rfl, rx36_232, rx35_26, rx37_32, rfl, rx36_233, rx35_34, rx37_40, rfl, rx36_234, rx35_42, rx37_48, rfl, rx36_235, rx35_50, rx37_56, rfl, rx36_236, rx35_58, rx37_64, rfl, rx36_237, rx35_66, rx37_72, rfl, rx36_238, rx35_74, rx37_80, rfl, rx36_239, rx35_82, rx37_88, rfl, rx36_240, rx35_90, rx37_96, rfl, rx36_241, rx35_98, rx37_104, rfl, rx36_242, rx35_106, rx37_112, rfl, rx36_243, rx35_114, rx37_120, rfl, rx36_244, rx35_122, rx37_128, rfl, rx36_245, rx35_130, rx37_136, rfl, rx36_246, rfl, rx36_247, rfl, rx36_248, rfl, rx36_249, rfl, rx36_250, rfl, rx36_251, rfl, rx36_252, rfl, rx36_253, rfl, rx36_254, rfl, rx36_255, rfl, rx36_256, rfl, rfl, rfl, rfl, rfl, rfl, rfl, trivial⟩

set_option maxHeartbeats 4000000 in
theorem rx68_258   : FnF Try.prog 68 true [.agg [iA 0, iA 81, iA 3, iA 0, iA 0], .agg [iA 0, iA 50, iA 1, iA 0, iA 255]] (.tuple [.agg [iA 0, iA 48, iA 3, iA 0, iA 0], .bool true]) :=
  fn_e2 Try.func68 400 [.d, .d, .d, .d, .d, .d, .d, .d, .v (iV 0), .d, .d, .f true (iV 28), .d, .d, .d, .d, .d, .f true (.tuple [.agg [iV 0, iV 48, iV 3, iV 0, iV 0], .bool true]), .d, .d, .d, .d] (ob := [(iV (bits .and .i64 0 255) : AV) = (iV 0 : AV), _, _, (0 : Int) = 0, (48 : Int) = 48, (3 : Int) = 3, (0 : Int) = 0, (0 : Int) = 0, (true : Bool) = true]) ⟨rfl, rx76_4, rx77_257, rfl, rfl, rfl, rfl, rfl, rfl, trivial⟩

set_option maxHeartbeats 4000000 in
theorem ru_ap2   : FnL Try.prog 54 [.mp []] [.map 0, .list [.agg [.int .i64 1, .int .i64 1, .int .i64 0, .int .i64 6, .int .i64 0, .int .i64 9, .int .i64 0, .int .i64 9, .int .i64 0, .int .i64 81], .agg [.int .i64 1, .int .i64 1, .int .i64 0, .int .i64 6, .int .i64 0, .int .i64 9, .int .i64 0, .int .i64 9, .int .i64 0, .int .i64 50]], .int .i64 6, .agg [.int .i64 0, .int .i64 9, .int .i64 3, .int .i64 0, .int .i64 0], .agg [.int .i64 0, .int .i64 9, .int .i64 1, .int .i64 0, .int .i64 0], .agg [.int .i64 0, .int .i64 81, .int .i64 3, .int .i64 0, .int .i64 0]] (.agg [.int .i64 0, .int .i64 48, .int .i64 3, .int .i64 0, .int .i64 0]) [.mp [.agg [.int .i64 1, .bool true]]] := by
  refine fn_flowL Try.func54 (st := (stX (.tuple []) 78 [(0, .map 0), (1, .list [.agg [iV 1, iV 1, iV 0, iV 6, iV 0, iV 9, iV 0, iV 9, iV 0, iV 81], .agg [iV 1, iV 1, iV 0, iV 6, iV 0, iV 9, iV 0, iV 9, iV 0, iV 50]]), (2, iV 6), (3, .agg [iV 0, iV 9, iV 3, iV 0, iV 0]), (4, .agg [iV 0, iV 9, iV 1, iV 0, iV 0]), (5, .agg [iV 0, iV 81, iV 3, iV 0, iV 0])] [.mp []])) ?_
  refine OkP.e 400 [.d, .d, .d, .d, .d, .v (iV 2), .d, .d, .d, .d, .d, .d, .d, .d, .d, .d, .d, .d, .d, .d, .d, .d, .d, .d, .d, .d, .d, .d, .d, .d, .d, .d, .d, .d, .d, .d, .d, .d, .d, .d, .d, .d, .d, .d, .d, .d, .d, .d, .d, .d, .d, .d, .f true (.agg [iV 0, iV 81, iV 1, iV 0, iV 255]), .f true (.tuple [.agg [iV 0, iV 81, iV 3, iV 0, iV 0], .bool true]), .d, .d, .d, .d, .d, .d, .d, .d, .d, .d, .v (.bool false), .d, .d, .v (iV 1), .d, .d, .d, .d, .d, .d, .d, .d, .d, .d, .d, .d, .d, .d, .d, .d, .d, .d, .d, .d, .d, .d, .d, .d, .d, .d, .d, .d, .d, .d, .d, .d, .d, .d, .d, .d, .d, .d, .d, .d, .d, .d, .d, .d, .d, .d, .f true (.agg [iV 0, iV 50, iV 1, iV 0, iV 255]), .f true (.tuple [.agg [iV 0, iV 48, iV 3, iV 0, iV 0], .bool true]), .d, .d, .d, .d, .d, .d, .d, .d, .d, .d, .v (.bool true), .d, .d, .d, .d, .d, .d, .d, .d, .v (iV 2), .d, .d, .d, .d, .d] [12] [0, 4] (st' := (stX .any 78 [(12, .ptr 1 0)] [.mp [.agg [iV 1, .bool true]], .cells [iV 0, iV 48, iV 3, iV 0, iV 0]])) (e := .ret) (ob := [∀ e ∈ ([.agg [iV 1, .bool true]] : List AV), idsOf e = [], (iV (([.agg [iV 1, iV 1, iV 0, iV 6, iV 0, iV 9, iV 0, iV 9, iV 0, iV 81], .agg [iV 1, iV 1, iV 0, iV 6, iV 0, iV 9, iV 0, iV 9, iV 0, iV 50]] : List AV).length : Int) : AV) = (iV 2 : AV), 0 ≤ (0 : Int), _, _, (.bool (!(((0 : Int) == 0) && (((81 : Int) == 81) && (((3 : Int) == 3) && (((0 : Int) == 0) && (((0 : Int) == 0) && true)))))) : AV) = (.bool false : AV), (iV (IntKind.wrap .i64 (0 + 1)) : AV) = (iV 1 : AV), 0 ≤ (1 : Int), _, _, (.bool (!(((0 : Int) == 0) && (((48 : Int) == 81) && (((3 : Int) == 3) && (((0 : Int) == 0) && (((0 : Int) == 0) && true)))))) : AV) = (.bool true : AV), (iV (IntKind.wrap .i64 (1 + 1)) : AV) = (iV 2 : AV)]) ⟨(by simp [idsOf, idsL]), rfl, (by decide), rx69_3, rx68_226, (bNotF (bAnd (eT (by omega)) (bAnd (eT (by omega)) (bAnd (eT (by omega)) (bAnd (eT (by omega)) (bAnd (eT (by omega)) rfl)))))), rfl, (by decide), rx69_228, rx68_258, (bNotT (bAndR (bAndL (eF (by omega))))), rfl, trivial⟩ ?_
  exact ⟨.inr rfl, finL_of (r0 := .agg [iV 0, iV 48, iV 3, iV 0, iV 0]) (R0 := [.mp [.agg [iV 1, .bool true]]]) (ob := [∀ e ∈ ([.agg [iV 1, .bool true]] : List AV), idsOf e = []]) 1 ⟨(by simp [idsOf, idsL]), trivial⟩ (rfl) (rfl)⟩

set_option maxHeartbeats 4000000 in
theorem rx25_259   : FnF Try.prog 25 true [iA 0, iA 9, iA 3] (.agg [iA 0, iA 9, iA 3, iA 0, iA 0]) :=
  fn_e2 Try.func25 400 [.d, .d, .d, .d, .d, .d, .v (iV 0), .d, .d] (ob := [(iV ((0 : Int).tmod 3) : AV) = (iV 0 : AV), (3 : Int) ≠ 0, (0 : Int) = 0, (9 : Int) = 9, (3 : Int) = 3, (0 : Int) = 0, (0 : Int) = 0]) ⟨rfl, (by decide), rfl, rfl, rfl, rfl, rfl, trivial⟩

set_option maxHeartbeats 4000000 in
theorem rx25_260   : FnF Try.prog 25 true [iA 0, iA 9, iA 1] (.agg [iA 0, iA 9, iA 1, iA 0, iA 0]) :=
  fn_e2 Try.func25 400 [.d, .d, .d, .d, .d, .d, .v (iV 0), .d, .d] (ob := [(iV ((0 : Int).tmod 1) : AV) = (iV 0 : AV), (1 : Int) ≠ 0, (0 : Int) = 0, (9 : Int) = 9, (1 : Int) = 1, (0 : Int) = 0, (0 : Int) = 0]) ⟨rfl, (by decide), rfl, rfl, rfl, rfl, rfl, trivial⟩

set_option maxHeartbeats 4000000 in
theorem rx40_261   : FnF Try.prog 40 true [] (.agg [.func (.func 59) [] [], .func (.func 60) [] [], .func (.func 61) [] [], .func (.func 62) [] [], .func (.func 63) [] [], .func (.func 64) [] [], .func (.func 65) [] []]) :=
  fn_e2 Try.func40 400 [.d, .d, .d] (ob := [(.func (.func 59) [] [] : AV) = (.func (.func 59) [] [] : AV), (.func (.func 60) [] [] : AV) = (.func (.func 60) [] [] : AV), (.func (.func 61) [] [] : AV) = (.func (.func 61) [] [] : AV), (.func (.func 62) [] [] : AV) = (.func (.func 62) [] [] : AV), (.func (.func 63) [] [] : AV) = (.func (.func 63) [] [] : AV), (.func (.func 64) [] [] : AV) = (.func (.func 64) [] [] : AV), (.func (.func 65) [] [] : AV) = (.func (.func 65) [] [] : AV)]) ⟨rfl, rfl, rfl, rfl, rfl, rfl, rfl, trivial⟩

set_option maxHeartbeats 4000000 in
theorem rx58_262   : FnF Try.prog 58 true [iA 0] (iA 0) :=
  fn_e2 Try.func58 400 [.d, .d, .d, .v (iV 0), .d, .d] (ob := [(iV (IntKind.wrap .i64 (0 - 0)) : AV) = (iV 0 : AV), (0 : Int) = 0]) ⟨rfl, rfl, trivial⟩

set_option maxHeartbeats 4000000 in
theorem rx38_263   : FnF Try.prog 38 true [.agg [iA 0, iA 9, iA 1, iA 0, iA 0]] (iA 1) :=
  fn_e2 Try.func38 400 [.d, .d, .d, .d, .d, .d, .d, .d, .d, .d, .d] (ob := [(1 : Int) = 1]) ⟨rfl, trivial⟩

set_option maxHeartbeats 4000000 in
theorem rx72_264   : FnF Try.prog 72 true [iA 0] (.bool true) :=
  fn_e2 Try.func72 400 [.d, .d, .d, .d, .d, .d, .d, .d] (ob := [(true : Bool) = true]) ⟨rfl, trivial⟩

set_option maxHeartbeats 4000000 in
theorem rx72_265   : FnF Try.prog 72 true [iA 81] (.bool true) :=
  fn_e2 Try.func72 400 [.d, .d, .d, .d, .d, .d, .d, .d] (ob := [(true : Bool) = true]) ⟨rfl, trivial⟩

set_option maxHeartbeats 4000000 in
theorem rx71_266   : FnF Try.prog 71 true [.agg [iA 0, iA 9, iA 3, iA 0, iA 0, iA 0, iA 9, iA 1, iA 0, iA 0, iA 0], iA 0, iA 81, iA 3] (.agg [iA 0, iA 81, iA 3, iA 0, iA 0]) :=
  fn_e2 Try.func71 400 [.d, .d, .d, .f true (.bool true), .d, .d, .f true (.bool true), .d, .d, .d, .d, .d, .d, .d, .f true (.agg [iV 0, iV 81, iV 3, iV 0, iV 0]), .d] (ob := [_, _, _, (0 : Int) = 0, (81 : Int) = 81, (3 : Int) = 3, (0 : Int) = 0, (0 : Int) = 0]) ⟨rx72_264, rx72_265, rx35_223, rfl, rfl, rfl, rfl, rfl, trivial⟩

set_option maxHeartbeats 4000000 in
theorem rx61_267   : FnF Try.prog 61 true [.agg [iA 0, iA 9, iA 3, iA 0, iA 0, iA 0, iA 9, iA 1, iA 0, iA 0, iA 0]] (.agg [iA 0, iA 81, iA 3, iA 0, iA 0]) :=
  fn_e2 Try.func61 400 [.d, .d, .d, .d, .d, .d, .d, .d, .d, .d, .d, .d, .d, .d, .v (iV 0), .d, .d, .d, .d, .v (iV 0), .d, .d, .d, .d, .v (iV 0), .d, .d, .d, .d, .v (iV 81), .d, .d, .d, .d, .d, .d, .d, .d, .d, .d, .d, .d, .d, .d, .d, .d, .d, .f true (iV 0), .d, .f true (iV 1), .v (iV 0), .d, .d, .f true (iV 0), .d, .f true (iV 3), .v (iV 0), .d, .f true (iV 3), .d, .f true (iV 1), .v (iV 3), .d, .f true (iV 3), .f true (.agg [iV 0, iV 81, iV 3, iV 0, iV 0]), .d] (ob := [(iV (IntKind.wrap .i64 (0 * 0)) : AV) = (iV 0 : AV), (iV (IntKind.wrap .i64 (0 * 9)) : AV) = (iV 0 : AV), (iV (IntKind.wrap .i64 (9 * 0)) : AV) = (iV 0 : AV), (iV (IntKind.wrap .i64 (9 * 9)) : AV) = (iV 81 : AV), _, _, (iV (IntKind.wrap .i64 (0 * 1)) : AV) = (iV 0 : AV), _, _, (iV (IntKind.wrap .i64 (0 * 3)) : AV) = (iV 0 : AV), _, _, (iV (IntKind.wrap .i64 (3 * 1)) : AV) = (iV 3 : AV), _, ∀ e ∈ ([iV 0, iV 3] : List AV), idsOf e = [], _, (0 : Int) = 0, (81 : Int) = 81, (3 : Int) = 3, (0 : Int) = 0, (0 : Int) = 0]) ⟨rfl, rfl, rfl, rfl, rx58_262, rx38_263, rfl, rx58_262, rx38_35, rfl, rx38_35, rx38_263, rfl, rx57_13, (by simp [idsOf, idsL]), rx71_266, rfl, rfl, rfl, rfl, rfl, trivial⟩

set_option maxHeartbeats 4000000 in
theorem rx20_268   : FnF Try.prog 20 true [iA 6, .agg [iA 0, iA 9, iA 3, iA 0, iA 0], .agg [iA 0, iA 9, iA 1, iA 0, iA 0]] (.agg [iA 0, iA 81, iA 3, iA 0, iA 0]) :=
  fn_e2 Try.func20 400 [.d, .d, .d, .d, .d, .d, .d, .d, .d, .v (iV 0), .d, .d, .d, .d, .f true (iV 3), .d, .d, .d, .d, .d, .d, .d, .d, .d, .d, .d, .d, .d, .d, .d, .f true (.agg [.func (.func 59) [] [], .func (.func 60) [] [], .func (.func 61) [] [], .func (.func 62) [] [], .func (.func 63) [] [], .func (.func 64) [] [], .func (.func 65) [] []]), .d, .v (iV 2), .d, .d, .f true (.agg [iV 0, iV 81, iV 3, iV 0, iV 0]), .d] (ob := [(iV (bits .or .i64 0 0) : AV) = (iV 0 : AV), _, _, (iV (IntKind.wrap .i64 (6 - 4)) : AV) = (iV 2 : AV), 0 ≤ (2 : Int) ∧ (2 : Int) < (7 : Nat), _, (0 : Int) = 0, (81 : Int) = 81, (3 : Int) = 3, (0 : Int) = 0, (0 : Int) = 0]) ⟨rfl, rx38_35, rx40_261, rfl, (by decide), rx61_267, rfl, rfl, rfl, rfl, rfl, trivial⟩

set_option maxHeartbeats 4000000 in
theorem rx34_269   : FnF Try.prog 34 true [.list [.agg [iA 1, iA 1, iA 0, iA 6, iA 0, iA 9, iA 0, iA 9, iA 0, iA 81]], iA 6, .agg [iA 0, iA 9, iA 3, iA 0, iA 0], .agg [iA 0, iA 9, iA 1, iA 0, iA 0], .agg [iA 0, iA 81, iA 3, iA 0, iA 0]] (.tuple [.agg [iA 0, iA 81, iA 3, iA 0, iA 0], .nilslice]) :=
  fn_e2 Try.func34 400 [.d, .d, .d, .d, .d, .d, .d, .d, .d, .d, .d, .d, .d, .l [4] (.agg [iV 0, iV 81, iV 3, iV 0, iV 0]) [.mp []], .d, .d, .d, .d, .g (.nilslice) [], .d, .d] (ob := [FnL Try.prog 54 [.mp []] [.map 0, .list [.agg [iV 1, iV 1, iV 0, iV 6, iV 0, iV 9, iV 0, iV 9, iV 0, iV 81]], iV 6, .agg [iV 0, iV 9, iV 3, iV 0, iV 0], .agg [iV 0, iV 9, iV 1, iV 0, iV 0], .agg [iV 0, iV 81, iV 3, iV 0, iV 0]] (.agg [iV 0, iV 81, iV 3, iV 0, iV 0]) [.mp []], ∀ e ∈ ([] : List AV), idsOf e = [], ∀ e ∈ ([] : List AV), idsOf e = [], FnG Try.prog 55 ([]) (.nilslice) [], (0 : Int) = 0, (81 : Int) = 81, (3 : Int) = 3, (0 : Int) = 0, (0 : Int) = 0, (.nilslice : AV) = (.nilslice : AV)]) ⟨ru_ap1, (by simp [idsOf, idsL]), (by simp [idsOf, idsL]), (us_list (ks := []) (by decide) (.inl ⟨rfl, rfl, rfl⟩)), rfl, rfl, rfl, rfl, rfl, rfl, trivial⟩

set_option maxHeartbeats 4000000 in
theorem rx16_270   : FnF Try.prog 16 true [.list [.agg [iA 1, iA 1, iA 0, iA 6, iA 0, iA 9, iA 0, iA 9, iA 0, iA 81]], iA 6, .agg [iA 0, iA 9, iA 3, iA 0, iA 0, iA 0, iA 9, iA 1, iA 0, iA 0]] (.agg [iA 0, iA 81, iA 3, iA 0, iA 0, .nilslice]) :=
  fn_e2 Try.func16 400 [.d, .d, .d, .d, .d, .d, .d, .d, .d, .d, .d, .d, .d, .f true (.agg [iV 0, iV 81, iV 3, iV 0, iV 0]), .f true (.tuple [.agg [iV 0, iV 81, iV 3, iV 0, iV 0], .nilslice]), .d, .d, .d, .d, .d, .d, .d, .d, .d, .d] (ob := [0 ≤ (0 : Int) ∧ (0 : Int) < (2 : Nat), 0 ≤ (1 : Int) ∧ (1 : Int) < (2 : Nat), 0 ≤ (0 : Int) ∧ (0 : Int) < (2 : Nat), 0 ≤ (1 : Int) ∧ (1 : Int) < (2 : Nat), _, _, (0 : Int) = 0, (81 : Int) = 81, (3 : Int) = 3, (0 : Int) = 0, (0 : Int) = 0, (.nilslice : AV) = (.nilslice : AV)]) ⟨(by decide), (by decide), (by decide), (by decide), rx20_268, rx34_269, rfl, rfl, rfl, rfl, rfl, rfl, trivial⟩

set_option maxHeartbeats 4000000 in
theorem rx34_271   : FnM Try.prog 34 [] [.list [.agg [iA 1, iA 1, iA 0, iA 6, iA 0, iA 9, iA 0, iA 9, iA 0, iA 81], .agg [iA 1, iA 1, iA 0, iA 6, iA 0, iA 9, iA 0, iA 9, iA 0, iA 50]], iA 6, .agg [iA 0, iA 9, iA 3, iA 0, iA 0], .agg [iA 0, iA 9, iA 1, iA 0, iA 0], .agg [iA 0, iA 81, iA 3, iA 0, iA 0]] (.tuple [.agg [iA 0, iA 48, iA 3, iA 0, iA 0], .slice 0 0 1 0]) [.row 1 [iA 1] 0] :=
  fn_ev (by kernel_rfl) Try.func34 (by kernel_rfl) 400
      [.d, .d, .d, .d, .d, .d, .d, .d, .d, .d, .d, .d, .d, .l [4] (.agg [iV 0, iV 48, iV 3, iV 0, iV 0]) [.mp [.agg [iV 1, .bool true]]], .d, .d, .d, .d, .g (.slice 0 0 1 0) [.row 1 [iV 1] 0], .d, .d]
      [6] rfl (r := .tuple [.agg [iV 0, iV 48, iV 3, iV 0, iV 0], .slice 0 0 1 0]) (R := [.row 1 [iV 1] 0]) (ob := [FnL Try.prog 54 [.mp []] [.map 0, .list [.agg [iV 1, iV 1, iV 0, iV 6, iV 0, iV 9, iV 0, iV 9, iV 0, iV 81], .agg [iV 1, iV 1, iV 0, iV 6, iV 0, iV 9, iV 0, iV 9, iV 0, iV 50]], iV 6, .agg [iV 0, iV 9, iV 3, iV 0, iV 0], .agg [iV 0, iV 9, iV 1, iV 0, iV 0], .agg [iV 0, iV 81, iV 3, iV 0, iV 0]] (.agg [iV 0, iV 48, iV 3, iV 0, iV 0]) [.mp [.agg [iV 1, .bool true]]], ∀ e ∈ ([] : List AV), idsOf e = [], ∀ e ∈ ([.agg [iV 1, .bool true]] : List AV), idsOf e = [], FnG Try.prog 55 ([.agg [iV 1, .bool true]]) (.slice 0 0 1 0) [.row 1 [iV 1] 0], ∀ e ∈ ([iV 1] : List AV), idsOf e = [], ∀ e ∈ ([iV 1] : List AV), idsOf e = []]) (by kernel_rfl)
      ⟨ru_ap2, (by simp [idsOf, idsL]), (by simp [idsOf, idsL]), (us_list (ks := ([1] : List Int)) (by decide) (.inr ⟨by decide, rfl, by rw [show sortI ([1] : List Int) = ([1] : List Int) from by simp [sortI]]; rfl⟩)), (by simp [idsOf, idsL]), (by simp [idsOf, idsL]), trivial⟩

set_option maxHeartbeats 4000000 in
theorem rx16_272   : FnM Try.prog 16 [] [.list [.agg [iA 1, iA 1, iA 0, iA 6, iA 0, iA 9, iA 0, iA 9, iA 0, iA 81], .agg [iA 1, iA 1, iA 0, iA 6, iA 0, iA 9, iA 0, iA 9, iA 0, iA 50]], iA 6, .agg [iA 0, iA 9, iA 3, iA 0, iA 0, iA 0, iA 9, iA 1, iA 0, iA 0]] (.agg [iA 0, iA 48, iA 3, iA 0, iA 0, .slice 0 0 1 0]) [.row 1 [iA 1] 0] :=
  fn_ev (by kernel_rfl) Try.func16 (by kernel_rfl) 400
      [.d, .d, .d, .d, .d, .d, .d, .d, .d, .d, .d, .d, .d, .f true (.agg [iV 0, iV 81, iV 3, iV 0, iV 0]), .c (.tuple [.agg [iV 0, iV 48, iV 3, iV 0, iV 0], .slice 0 0 1 0]) [.row 1 [iV 1] 0], .d, .d, .d, .d, .d, .d, .d, .d, .d, .d]
      [2] rfl (r := .agg [iV 0, iV 48, iV 3, iV 0, iV 0, .slice 0 0 1 0]) (R := [.row 1 [iV 1] 0]) (ob := [0 ≤ (0 : Int) ∧ (0 : Int) < (2 : Nat), 0 ≤ (1 : Int) ∧ (1 : Int) < (2 : Nat), 0 ≤ (0 : Int) ∧ (0 : Int) < (2 : Nat), 0 ≤ (1 : Int) ∧ (1 : Int) < (2 : Nat), _, _, ∀ e ∈ ([iV 1] : List AV), idsOf e = [], ∀ e ∈ ([iV 1] : List AV), idsOf e = []]) (by kernel_rfl)
      ⟨(by decide), (by decide), (by decide), (by decide), rx20_268, rx34_271, (by simp [idsOf, idsL]), (by simp [idsOf, idsL]), trivial⟩

set_option maxHeartbeats 4000000 in
theorem rx29_273   : FnF Try.prog 29 true [iA 0] (.bool true) :=
  fn_e2 Try.func29 400 [.d, .d, .d, .d, .d, .d, .d, .d] (ob := [(true : Bool) = true]) ⟨rfl, trivial⟩

set_option maxHeartbeats 4000000 in
theorem rx29_274   : FnF Try.prog 29 true [iA 9] (.bool true) :=
  fn_e2 Try.func29 400 [.d, .d, .d, .d, .d, .d, .d, .d] (ob := [(true : Bool) = true]) ⟨rfl, trivial⟩

set_option maxHeartbeats 4000000 in
theorem rx29_275   : FnF Try.prog 29 true [iA 81] (.bool true) :=
  fn_e2 Try.func29 400 [.d, .d, .d, .d, .d, .d, .d, .d] (ob := [(true : Bool) = true]) ⟨rfl, trivial⟩

set_option maxHeartbeats 4000000 in
theorem rx10_276   : FnF Try.prog 10 true [.agg [iA 1, iA 1, iA 0, iA 6, iA 0, iA 9, iA 0, iA 9, iA 0, iA 81]] (iA 0) :=
  fn_e2 Try.func10 400 [.d, .d, .d, .d, .d, .d, .d, .d, .d, .d, .d, .d, .d, .d, .d, .d, .d, .d, .d, .d, .d, .d, .d, .f true (.bool true), .d, .d, .v (iV 1), .d, .d, .d, .d, .d, .d, .d, .f true (.bool true), .d, .d, .v (iV 2), .d, .d, .d, .d, .d, .d, .d, .f true (.bool true), .d, .d, .v (iV 3), .d, .d, .d, .d, .d, .d, .d, .f true (.bool true), .d, .d, .v (iV 4), .d, .d, .d, .d, .d, .d, .d, .f true (.bool true), .d, .d, .v (iV 5), .d, .d, .d, .d, .d, .d, .d, .f true (.bool true), .d, .d, .v (iV 6), .d, .d, .d, .d, .d, .d, .d, .d, .d, .d, .d, .d, .d, .d, .d, .d, .d, .d, .d, .d, .d, .d, .d, .d, .d, .d, .d, .d, .d, .d, .d, .d, .d, .d, .d, .d, .d, .d, .d, .d, .d, .d, .d, .d, .d, .d, .d, .d, .d, .d, .d, .d, .d, .d, .d, .d, .d, .d, .d, .d, .d, .d, .d, .d, .d, .d, .d, .v (iV 9), .v (iV 10), .d, .d, .d, .d, .v (iV 9), .v (iV 10), .v (iV 100), .d, .d, .d, .d, .d, .d, .v (iV 9), .d, .d, .d, .d, .d, .d, .d, .v (iV 9), .d, .d, .d, .d] (ob := [0 ≤ (0 : Int) ∧ (0 : Int) < (6 : Nat), _, (iV (IntKind.wrap .i64 (0 + 1)) : AV) = (iV 1 : AV), 0 ≤ (1 : Int) ∧ (1 : Int) < (6 : Nat), _, (iV (IntKind.wrap .i64 (1 + 1)) : AV) = (iV 2 : AV), 0 ≤ (2 : Int) ∧ (2 : Int) < (6 : Nat), _, (iV (IntKind.wrap .i64 (2 + 1)) : AV) = (iV 3 : AV), 0 ≤ (3 : Int) ∧ (3 : Int) < (6 : Nat), _, (iV (IntKind.wrap .i64 (3 + 1)) : AV) = (iV 4 : AV), 0 ≤ (4 : Int) ∧ (4 : Int) < (6 : Nat), _, (iV (IntKind.wrap .i64 (4 + 1)) : AV) = (iV 5 : AV), 0 ≤ (5 : Int) ∧ (5 : Int) < (6 : Nat), _, (iV (IntKind.wrap .i64 (5 + 1)) : AV) = (iV 6 : AV), (iV (IntKind.wrap .i64 (9 - 0)) : AV) = (iV 9 : AV), (iV (IntKind.wrap .i64 (9 + 1)) : AV) = (iV 10 : AV), (iV (IntKind.wrap .i64 (9 - 0)) : AV) = (iV 9 : AV), (iV (IntKind.wrap .i64 (9 + 1)) : AV) = (iV 10 : AV), (iV (IntKind.wrap .i64 (10 * 10)) : AV) = (iV 100 : AV), (iV (IntKind.wrap .i64 (9 - 0)) : AV) = (iV 9 : AV), (iV (IntKind.wrap .i64 (9 - 0)) : AV) = (iV 9 : AV), (0 : Int) = 0]) ⟨(by decide), rx29_273, rfl, (by decide), rx29_274, rfl, (by decide), rx29_273, rfl, (by decide), rx29_274, rfl, (by decide), rx29_273, rfl, (by decide), rx29_275, rfl, rfl, rfl, rfl, rfl, rfl, rfl, rfl, rfl, trivial⟩

set_option maxHeartbeats 4000000 in
theorem rx10_277   : FnF Try.prog 10 true [.agg [iA 0, iA 0, iA 0, iA 0, iA 0, iA 0, iA 0, iA 0, iA 0, iA 0]] (iA 130) :=
  fn_e2 Try.func10 400 [.d, .d, .d, .d, .d, .d, .d, .d, .d, .d, .d, .d, .d, .d, .d, .d, .d, .d, .d, .d, .d, .d, .d, .f true (.bool true), .d, .d, .v (iV 1), .d, .d, .d, .d, .d, .d, .d, .f true (.bool true), .d, .d, .v (iV 2), .d, .d, .d, .d, .d, .d, .d, .f true (.bool true), .d, .d, .v (iV 3), .d, .d, .d, .d, .d, .d, .d, .f true (.bool true), .d, .d, .v (iV 4), .d, .d, .d, .d, .d, .d, .d, .f true (.bool true), .d, .d, .v (iV 5), .d, .d, .d, .d, .d, .d, .d, .f true (.bool true), .d, .d, .v (iV 6), .d, .d, .d, .d, .d, .d, .d, .d, .d, .d, .d, .d, .d, .d, .d, .d, .d, .d, .d, .d, .d, .d, .d, .d, .d, .d, .d, .d, .d, .d, .d, .d, .d, .d, .d, .d, .d, .d, .d, .d, .d, .d, .d, .d, .d, .d, .d, .d, .d, .d, .d, .d, .d, .d, .d, .d, .d, .d, .d, .d, .d, .d, .d, .d] (ob := [0 ≤ (0 : Int) ∧ (0 : Int) < (6 : Nat), _, (iV (IntKind.wrap .i64 (0 + 1)) : AV) = (iV 1 : AV), 0 ≤ (1 : Int) ∧ (1 : Int) < (6 : Nat), _, (iV (IntKind.wrap .i64 (1 + 1)) : AV) = (iV 2 : AV), 0 ≤ (2 : Int) ∧ (2 : Int) < (6 : Nat), _, (iV (IntKind.wrap .i64 (2 + 1)) : AV) = (iV 3 : AV), 0 ≤ (3 : Int) ∧ (3 : Int) < (6 : Nat), _, (iV (IntKind.wrap .i64 (3 + 1)) : AV) = (iV 4 : AV), 0 ≤ (4 : Int) ∧ (4 : Int) < (6 : Nat), _, (iV (IntKind.wrap .i64 (4 + 1)) : AV) = (iV 5 : AV), 0 ≤ (5 : Int) ∧ (5 : Int) < (6 : Nat), _, (iV (IntKind.wrap .i64 (5 + 1)) : AV) = (iV 6 : AV), (130 : Int) = 130]) ⟨(by decide), rx29_273, rfl, (by decide), rx29_273, rfl, (by decide), rx29_273, rfl, (by decide), rx29_273, rfl, (by decide), rx29_273, rfl, (by decide), rx29_273, rfl, rfl, trivial⟩

set_option maxHeartbeats 4000000 in
theorem rx25_278   : FnF Try.prog 25 true [iA 0, iA 81, iA 3] (.agg [iA 0, iA 81, iA 3, iA 0, iA 0]) :=
  fn_e2 Try.func25 400 [.d, .d, .d, .d, .d, .d, .v (iV 0), .d, .d] (ob := [(iV ((0 : Int).tmod 3) : AV) = (iV 0 : AV), (3 : Int) ≠ 0, (0 : Int) = 0, (81 : Int) = 81, (3 : Int) = 3, (0 : Int) = 0, (0 : Int) = 0]) ⟨rfl, (by decide), rfl, rfl, rfl, rfl, rfl, trivial⟩

set_option maxHeartbeats 4000000 in
theorem rx42_279   : FnF Try.prog 42 true [.nilslice, .nilslice] (.bool true) :=
  fn_e2 Try.func42 400 [.d, .d, .d, .d, .d, .d, .d, .d, .d, .d, .d, .d, .d, .d] (ob := [(true : Bool) = true]) ⟨rfl, trivial⟩

set_option maxHeartbeats 4000000 in
theorem rx23_280   : FnF Try.prog 23 true [.agg [iA 0, iA 81, iA 3, iA 0, iA 0, .nilslice], .agg [iA 0, iA 81, iA 3, iA 0, iA 0, .nilslice]] (.bool true) :=
  fn_e2 Try.func23 400 [.d, .d, .d, .d, .d, .d, .d, .v (.bool true), .d, .d, .d, .d, .d, .f true (.bool true), .d, .d] (ob := [(.bool (((0 : Int) == 0) && (((81 : Int) == 81) && (((3 : Int) == 3) && (((0 : Int) == 0) && (((0 : Int) == 0) && true))))) : AV) = (.bool true : AV), _, (true : Bool) = true]) ⟨(bAnd (eT (by omega)) (bAnd (eT (by omega)) (bAnd (eT (by omega)) (bAnd (eT (by omega)) (bAnd (eT (by omega)) rfl))))), rx42_279, rfl, trivial⟩

set_option maxHeartbeats 4000000 in
theorem rx25_281   : FnF Try.prog 25 true [iA 0, iA 48, iA 3] (.agg [iA 0, iA 48, iA 3, iA 0, iA 0]) :=
  fn_e2 Try.func25 400 [.d, .d, .d, .d, .d, .d, .v (iV 0), .d, .d] (ob := [(iV ((0 : Int).tmod 3) : AV) = (iV 0 : AV), (3 : Int) ≠ 0, (0 : Int) = 0, (48 : Int) = 48, (3 : Int) = 3, (0 : Int) = 0, (0 : Int) = 0]) ⟨rfl, (by decide), rfl, rfl, rfl, rfl, rfl, trivial⟩

set_option maxHeartbeats 4000000 in
theorem rx42_282   : FnF Try.prog 42 true [.list [iA 1], .list [iA 1]] (.bool true) :=
  fn_e2 Try.func42 400 [.d, .d, .v (iV 1), .d, .v (iV 1), .d, .d, .d, .d, .d, .v (iV 1), .d, .d, .d, .d, .d, .d, .d, .d, .d, .d, .d, .d, .d, .v (iV 1), .d, .d, .d, .v (iV 1), .d, .d, .d] (ob := [(iV (([iV 1] : List AV).length : Int) : AV) = (iV 1 : AV), (iV (([iV 1] : List AV).length : Int) : AV) = (iV 1 : AV), (iV (([iV 1] : List AV).length : Int) : AV) = (iV 1 : AV), 0 ≤ (0 : Int), 0 ≤ (0 : Int), (iV (IntKind.wrap .i64 (0 + 1)) : AV) = (iV 1 : AV), (iV (([iV 1] : List AV).length : Int) : AV) = (iV 1 : AV), (true : Bool) = true]) ⟨rfl, rfl, rfl, (by decide), (by decide), rfl, rfl, rfl, trivial⟩

set_option maxHeartbeats 4000000 in
theorem rx23_283   : FnF Try.prog 23 true [.agg [iA 0, iA 48, iA 3, iA 0, iA 0, .list [iA 1]], .agg [iA 0, iA 48, iA 3, iA 0, iA 0, .list [iA 1]]] (.bool true) :=
  fn_e2 Try.func23 400 [.d, .d, .d, .d, .d, .d, .d, .v (.bool true), .d, .d, .d, .d, .d, .f true (.bool true), .d, .d] (ob := [(.bool (((0 : Int) == 0) && (((48 : Int) == 48) && (((3 : Int) == 3) && (((0 : Int) == 0) && (((0 : Int) == 0) && true))))) : AV) = (.bool true : AV), _, (true : Bool) = true]) ⟨(bAnd (eT (by omega)) (bAnd (eT (by omega)) (bAnd (eT (by omega)) (bAnd (eT (by omega)) (bAnd (eT (by omega)) rfl))))), rx42_282, rfl, trivial⟩

set_option maxHeartbeats 4000000 in
theorem rx_examples   : FnF Try.prog 7 true [] (.bool true) := by
  refine fn_flow Try.func7 (st := (stX (.tuple []) 54 [] [])) ?_
  exact OkP.f 400 [.d, .d, .d, .d, .d, .d, .d, .d, .d, .d, .d, .d, .d, .d, .f true (.agg [iV 0, iV 9, iV 3, iV 0, iV 0]), .f true (.agg [iV 0, iV 9, iV 1, iV 0, iV 0]), .d, .d, .d, .d, .d, .d, .f true (.agg [iV 0, iV 81, iV 3, iV 0, iV 0, .nilslice]), .d, .d, .d, .d, .c (.agg [iV 0, iV 48, iV 3, iV 0, iV 0, .slice 0 0 1 0]) [.row 1 [iV 1] 0], .d, .d, .d, .d, .d, .f true (iV 0), .d, .d, .d, .f true (.bool true), .d, .d, .d, .f true (.bool false), .d, .d, .d, .d, .f true (iV 130), .d, .d, .d, .d, .f true (.agg [iV 0, iV 81, iV 3, iV 0, iV 0]), .d, .f true (.bool true), .d, .d, .d, .f true (.agg [iV 0, iV 48, iV 3, iV 0, iV 0]), .d, .d, .f true (.bool true), .d, .d] (ob := [_, _, _, ∀ e ∈ ([.agg [iV 1, iV 1, iV 0, iV 6, iV 0, iV 9, iV 0, iV 9, iV 0, iV 81]] : List AV), idsOf e = [], _, plainV (.agg [iV 0, iV 48, iV 3, iV 0, iV 0, .slice 0 0 1 0]) = true, ∀ x ∈ ([.row 1 [iV 1] 0] : List Blk), PlainB x, ∀ e ∈ ([iV 1] : List AV), idsOf e = [], ∀ e ∈ ([.agg [iV 1, iV 1, iV 0, iV 6, iV 0, iV 9, iV 0, iV 9, iV 0, iV 81], .agg [iV 1, iV 1, iV 0, iV 6, iV 0, iV 9, iV 0, iV 9, iV 0, iV 50]] : List AV), idsOf e = [], _, FnF Try.prog 11 true [.agg [iV 1, iV 1, iV 0, iV 6, iV 0, iV 9, iV 0, iV 9, iV 0, iV 81]] (.bool true), FnF Try.prog 11 true [.agg [iV 1, iV 1, iV 0, iV 6, iV 0, iV 9, iV 0, iV 9, iV 0, iV 80]] (.bool false), _, _, _, _, _, ∀ e ∈ ([iV 1] : List AV), idsOf e = [], ∀ e ∈ ([iV 1] : List AV), idsOf e = [], (true : Bool) = true]) ⟨rx25_259, rx25_260, rx16_270, (by simp [idsOf, idsL]), rx16_272, rfl, (by simp [PlainB, plainV, plainL]), (by simp [idsOf, idsL]), (by simp [idsOf, idsL]), rx10_276, (by have h := ru_sound (r := (⟨1, 1, 0, 6, 0, 9, 0, 9, 0, 81⟩ : Ru)) (by unfold B32R; decide) (by unfold I64R; decide); rw [show okB (⟨1, 1, 0, 6, 0, 9, 0, 9, 0, 81⟩ : Ru) = true from by kernel_rfl] at h; exact h), (by have h := ru_sound (r := (⟨1, 1, 0, 6, 0, 9, 0, 9, 0, 80⟩ : Ru)) (by unfold B32R; decide) (by unfold I64R; decide); rw [show okB (⟨1, 1, 0, 6, 0, 9, 0, 9, 0, 80⟩ : Ru) = false from by kernel_rfl] at h; exact h), rx10_277, rx25_278, rx23_280, rx25_281, rx23_283, (by simp [idsOf, idsL]), (by simp [idsOf, idsL]), rfl, trivial⟩

end Go.Proofs.Ytioiffbnbjalcaa
