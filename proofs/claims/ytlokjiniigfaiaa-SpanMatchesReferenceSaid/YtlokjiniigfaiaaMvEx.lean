/- The fixed calls of chapter 10 -/
import Derived.Test.YtlokjiniigfaiaaMvFun
import Derived.Test.YtlokjiniigfaiaaProg
set_option linter.unusedVariables false
set_option linter.unusedSimpArgs false
namespace Go.Proofs.Ytlokjiniigfaiaa
open Go.RowKit
set_option maxRecDepth 100000
theorem ex40_1   : FnF Try.prog 40 true [iA 4, iA 4, iA 1] (.agg [iA 4, iA 4, iA 1, iA 0, iA 0]) :=
  fn_evF (by kernel_rfl) Try.func40 (by kernel_rfl) 400
      [.d, .d, .d, .d, .d, .d, .d, .d, .d]
      (by kernel_rfl) (ob := [(4 : Int) = 4,
        (4 : Int) = 4,
        (1 : Int) = 1,
        (0 : Int) = 0,
        (0 : Int) = 0]) (by kernel_rfl)
      ⟨rfl, rfl, rfl, rfl, rfl, trivial⟩

theorem ex39_2   : FnF Try.prog 39 true [iA 4] (.agg [iA 4, iA 4, iA 1, iA 0, iA 0]) :=
  fn_evF (by kernel_rfl) Try.func39 (by kernel_rfl) 400
      [.d, .d, .d, .f true (.agg [iA 4, iA 4, iA 1, iA 0, iA 0]), .d]
      (by kernel_rfl) (ob := [FnF Try.prog 40 true [iA 4, iA 4, iA 1] (.agg [iA 4, iA 4, iA 1, iA 0, iA 0]),
        (4 : Int) = 4,
        (4 : Int) = 4,
        (1 : Int) = 1,
        (0 : Int) = 0,
        (0 : Int) = 0]) (by kernel_rfl)
      ⟨ex40_1, rfl, rfl, rfl, rfl, rfl, trivial⟩

theorem ex40_3   : FnF Try.prog 40 true [iA 10, iA 10, iA 1] (.agg [iA 10, iA 10, iA 1, iA 0, iA 0]) :=
  fn_evF (by kernel_rfl) Try.func40 (by kernel_rfl) 400
      [.d, .d, .d, .d, .d, .d, .d, .d, .d]
      (by kernel_rfl) (ob := [(10 : Int) = 10,
        (10 : Int) = 10,
        (1 : Int) = 1,
        (0 : Int) = 0,
        (0 : Int) = 0]) (by kernel_rfl)
      ⟨rfl, rfl, rfl, rfl, rfl, trivial⟩

theorem ex39_4   : FnF Try.prog 39 true [iA 10] (.agg [iA 10, iA 10, iA 1, iA 0, iA 0]) :=
  fn_evF (by kernel_rfl) Try.func39 (by kernel_rfl) 400
      [.d, .d, .d, .f true (.agg [iA 10, iA 10, iA 1, iA 0, iA 0]), .d]
      (by kernel_rfl) (ob := [FnF Try.prog 40 true [iA 10, iA 10, iA 1] (.agg [iA 10, iA 10, iA 1, iA 0, iA 0]),
        (10 : Int) = 10,
        (10 : Int) = 10,
        (1 : Int) = 1,
        (0 : Int) = 0,
        (0 : Int) = 0]) (by kernel_rfl)
      ⟨ex40_3, rfl, rfl, rfl, rfl, rfl, trivial⟩

theorem ex44_5   : FnF Try.prog 44 true [.agg [iA 4, iA 4, iA 1, iA 0, iA 0]] (iA 0) :=
  fn_evF (by kernel_rfl) Try.func44 (by kernel_rfl) 400
      [.d, .d, .d, .d, .d, .d, .d, .d, .d]
      (by kernel_rfl) (ob := [(0 : Int) = 0]) (by kernel_rfl)
      ⟨rfl, trivial⟩

theorem ex44_6   : FnF Try.prog 44 true [.agg [iA 10, iA 10, iA 1, iA 0, iA 0]] (iA 0) :=
  fn_evF (by kernel_rfl) Try.func44 (by kernel_rfl) 400
      [.d, .d, .d, .d, .d, .d, .d, .d, .d]
      (by kernel_rfl) (ob := [(0 : Int) = 0]) (by kernel_rfl)
      ⟨rfl, trivial⟩

theorem ex50_7   : FnF Try.prog 50 true [iA (-6)] (iA 6) :=
  fn_evF (by kernel_rfl) Try.func50 (by kernel_rfl) 400
      [.d, .d, .d, .v (iA 6), .d, .d]
      (by kernel_rfl) (ob := [(iA (IntKind.wrap .i64 (0 - (-6))) : AV) = (iA 6 : AV),
        (6 : Int) = 6]) (by kernel_rfl)
      ⟨rfl, rfl, trivial⟩

theorem ex50_8   : FnF Try.prog 50 true [iA 6] (iA 6) :=
  fn_evF (by kernel_rfl) Try.func50 (by kernel_rfl) 400
      [.d, .d, .d, .v (iA (-6)), .d, .d]
      (by kernel_rfl) (ob := [(iA (IntKind.wrap .i64 (0 - 6)) : AV) = (iA (-6) : AV),
        (6 : Int) = 6]) (by kernel_rfl)
      ⟨rfl, rfl, trivial⟩

theorem ex49_9   : FnF Try.prog 49 true [iA 0, .list [iA 0, iA 6]] (iA 6) :=
  fn_evF (by kernel_rfl) Try.func49 (by kernel_rfl) 400
      [.d, .d, .v (iA 2), .d, .d, .d, .d, .d, .d, .d, .d, .d, .v (iA 1), .d, .d, .d, .d, .d, .d, .d, .d, .d, .d, .d, .d, .v (iA 0), .d, .d, .d, .d, .d, .v (iA 2), .d, .d, .d, .d, .f true (iA 6), .d]
      (by kernel_rfl) (ob := [(iA (([iA 0, iA 6] : List AV).length : Int) : AV) = (iA 2 : AV),
        0 ≤ (0 : Int),
        (iA (IntKind.wrap .i64 (0 + 1)) : AV) = (iA 1 : AV),
        0 ≤ (1 : Int),
        (iA ((0 : Int).tmod 6) : AV) = (iA 0 : AV),
        (6 : Int) ≠ 0,
        (iA (IntKind.wrap .i64 (1 + 1)) : AV) = (iA 2 : AV),
        FnF Try.prog 50 true [iA 6] (iA 6),
        (6 : Int) = 6]) (by kernel_rfl)
      ⟨rfl, (by decide), rfl, (by decide), rfl, (by decide), rfl, ex50_8, rfl, trivial⟩

theorem ex81_10   : FnF Try.prog 81 true [iA 4, iA 6] (iA 4) :=
  fn_evF (by kernel_rfl) Try.func81 (by kernel_rfl) 400
      [.d, .d, .d, .v (iA 4), .d, .v (iA 10), .d, .v (iA 4), .d]
      (by kernel_rfl) (ob := [(iA ((4 : Int).tmod 6) : AV) = (iA 4 : AV),
        (6 : Int) ≠ 0,
        (iA (IntKind.wrap .i64 (4 + 6)) : AV) = (iA 10 : AV),
        (iA ((10 : Int).tmod 6) : AV) = (iA 4 : AV),
        (6 : Int) ≠ 0,
        (4 : Int) = 4]) (by kernel_rfl)
      ⟨rfl, (by decide), rfl, rfl, (by decide), rfl, trivial⟩

theorem ex46_11   : FnF Try.prog 46 true [iA 4, iA 10, iA 6, iA 0] (.agg [iA 4, iA 10, iA 6, iA 4, iA 0]) :=
  fn_evF (by kernel_rfl) Try.func46 (by kernel_rfl) 400
      [.d, .d, .d, .d, .d, .d, .d, .v (iA 6), .d, .v (iA 0), .v (iA 10), .d, .d, .d, .d, .d, .d, .d, .d, .d, .d, .f true (iA 4), .d, .d, .d]
      (by kernel_rfl) (ob := [(iA (IntKind.wrap .i64 (10 - 4)) : AV) = (iA 6 : AV),
        (iA ((6 : Int).tmod 6) : AV) = (iA 0 : AV),
        (6 : Int) ≠ 0,
        (iA (IntKind.wrap .i64 (10 - 0)) : AV) = (iA 10 : AV),
        FnF Try.prog 81 true [iA 4, iA 6] (iA 4),
        (4 : Int) = 4,
        (10 : Int) = 10,
        (6 : Int) = 6,
        (4 : Int) = 4,
        (0 : Int) = 0]) (by kernel_rfl)
      ⟨rfl, rfl, (by decide), rfl, ex81_10, rfl, rfl, rfl, rfl, rfl, trivial⟩

theorem ex17_12   : FnF Try.prog 17 true [.agg [iA 4, iA 4, iA 1, iA 0, iA 0], .agg [iA 10, iA 10, iA 1, iA 0, iA 0]] (.agg [iA 4, iA 10, iA 6, iA 4, iA 0]) :=
  fn_evF (by kernel_rfl) Try.func17 (by kernel_rfl) 400
      [.d, .d, .d, .d, .d, .d, .d, .d, .d, .d, .d, .d, .d, .d, .f true (iA 0), .d, .f true (iA 0), .d, .d, .d, .d, .v (iA (-6)), .f true (iA 6), .d, .f true (iA 6), .d, .d, .d, .d, .v (iA 0), .f true (.agg [iA 4, iA 10, iA 6, iA 4, iA 0]), .d]
      (by kernel_rfl) (ob := [FnF Try.prog 44 true [.agg [iA 4, iA 4, iA 1, iA 0, iA 0]] (iA 0),
        FnF Try.prog 44 true [.agg [iA 10, iA 10, iA 1, iA 0, iA 0]] (iA 0),
        (iA (IntKind.wrap .i64 (4 - 10)) : AV) = (iA (-6) : AV),
        FnF Try.prog 50 true [iA (-6)] (iA 6),
        FnF Try.prog 49 true [iA 0, .list [iA 0, iA 6]] (iA 6),
        ∀ e ∈ ([iA 0, iA 6] : List AV), idsOf e = [],
        (iA (bits .or .i64 0 0) : AV) = (iA 0 : AV),
        FnF Try.prog 46 true [iA 4, iA 10, iA 6, iA 0] (.agg [iA 4, iA 10, iA 6, iA 4, iA 0]),
        (4 : Int) = 4,
        (10 : Int) = 10,
        (6 : Int) = 6,
        (4 : Int) = 4,
        (0 : Int) = 0]) (by kernel_rfl)
      ⟨ex44_5, ex44_6, rfl, ex50_7, ex49_9, (by simp [idsOf, idsL, encA]), rfl, ex46_11, rfl, rfl, rfl, rfl, rfl, trivial⟩

theorem ex40_13   : FnF Try.prog 40 true [iA 4, iA 10, iA 6] (.agg [iA 4, iA 10, iA 6, iA 4, iA 0]) :=
  fn_evF (by kernel_rfl) Try.func40 (by kernel_rfl) 400
      [.d, .d, .d, .d, .d, .d, .d, .d, .d, .d, .v (iA 4), .d, .v (iA 10), .d, .v (iA 4), .d, .d]
      (by kernel_rfl) (ob := [(iA ((4 : Int).tmod 6) : AV) = (iA 4 : AV),
        (6 : Int) ≠ 0,
        (iA (IntKind.wrap .i64 (4 + 6)) : AV) = (iA 10 : AV),
        (iA ((10 : Int).tmod 6) : AV) = (iA 4 : AV),
        (6 : Int) ≠ 0,
        (4 : Int) = 4,
        (10 : Int) = 10,
        (6 : Int) = 6,
        (4 : Int) = 4,
        (0 : Int) = 0]) (by kernel_rfl)
      ⟨rfl, (by decide), rfl, rfl, (by decide), rfl, rfl, rfl, rfl, rfl, trivial⟩

theorem ex40_14   : FnF Try.prog 40 true [iA 7, iA 7, iA 1] (.agg [iA 7, iA 7, iA 1, iA 0, iA 0]) :=
  fn_evF (by kernel_rfl) Try.func40 (by kernel_rfl) 400
      [.d, .d, .d, .d, .d, .d, .d, .d, .d]
      (by kernel_rfl) (ob := [(7 : Int) = 7,
        (7 : Int) = 7,
        (1 : Int) = 1,
        (0 : Int) = 0,
        (0 : Int) = 0]) (by kernel_rfl)
      ⟨rfl, rfl, rfl, rfl, rfl, trivial⟩

theorem ex39_15   : FnF Try.prog 39 true [iA 7] (.agg [iA 7, iA 7, iA 1, iA 0, iA 0]) :=
  fn_evF (by kernel_rfl) Try.func39 (by kernel_rfl) 400
      [.d, .d, .d, .f true (.agg [iA 7, iA 7, iA 1, iA 0, iA 0]), .d]
      (by kernel_rfl) (ob := [FnF Try.prog 40 true [iA 7, iA 7, iA 1] (.agg [iA 7, iA 7, iA 1, iA 0, iA 0]),
        (7 : Int) = 7,
        (7 : Int) = 7,
        (1 : Int) = 1,
        (0 : Int) = 0,
        (0 : Int) = 0]) (by kernel_rfl)
      ⟨ex40_14, rfl, rfl, rfl, rfl, rfl, trivial⟩

theorem ex44_16   : FnF Try.prog 44 true [.agg [iA 4, iA 10, iA 6, iA 4, iA 0]] (iA 6) :=
  fn_evF (by kernel_rfl) Try.func44 (by kernel_rfl) 400
      [.d, .d, .d, .d, .d, .d, .d, .d, .d, .d, .d]
      (by kernel_rfl) (ob := [(6 : Int) = 6]) (by kernel_rfl)
      ⟨rfl, trivial⟩

theorem ex44_17   : FnF Try.prog 44 true [.agg [iA 7, iA 7, iA 1, iA 0, iA 0]] (iA 0) :=
  fn_evF (by kernel_rfl) Try.func44 (by kernel_rfl) 400
      [.d, .d, .d, .d, .d, .d, .d, .d, .d]
      (by kernel_rfl) (ob := [(0 : Int) = 0]) (by kernel_rfl)
      ⟨rfl, trivial⟩

theorem ex50_18   : FnF Try.prog 50 true [iA (-3)] (iA 3) :=
  fn_evF (by kernel_rfl) Try.func50 (by kernel_rfl) 400
      [.d, .d, .d, .v (iA 3), .d, .d]
      (by kernel_rfl) (ob := [(iA (IntKind.wrap .i64 (0 - (-3))) : AV) = (iA 3 : AV),
        (3 : Int) = 3]) (by kernel_rfl)
      ⟨rfl, rfl, trivial⟩

theorem ex50_19   : FnF Try.prog 50 true [iA 3] (iA 3) :=
  fn_evF (by kernel_rfl) Try.func50 (by kernel_rfl) 400
      [.d, .d, .d, .v (iA (-3)), .d, .d]
      (by kernel_rfl) (ob := [(iA (IntKind.wrap .i64 (0 - 3)) : AV) = (iA (-3) : AV),
        (3 : Int) = 3]) (by kernel_rfl)
      ⟨rfl, rfl, trivial⟩

theorem ex49_20   : FnF Try.prog 49 true [iA 6, .list [iA 0, iA 3]] (iA 3) :=
  fn_evF (by kernel_rfl) Try.func49 (by kernel_rfl) 400
      [.d, .d, .v (iA 2), .d, .d, .d, .d, .d, .d, .d, .d, .d, .v (iA 1), .d, .d, .d, .d, .d, .d, .d, .d, .d, .d, .d, .d, .v (iA 0), .d, .d, .d, .d, .d, .v (iA 2), .d, .d, .d, .d, .f true (iA 3), .d]
      (by kernel_rfl) (ob := [(iA (([iA 0, iA 3] : List AV).length : Int) : AV) = (iA 2 : AV),
        0 ≤ (0 : Int),
        (iA (IntKind.wrap .i64 (0 + 1)) : AV) = (iA 1 : AV),
        0 ≤ (1 : Int),
        (iA ((6 : Int).tmod 3) : AV) = (iA 0 : AV),
        (3 : Int) ≠ 0,
        (iA (IntKind.wrap .i64 (1 + 1)) : AV) = (iA 2 : AV),
        FnF Try.prog 50 true [iA 3] (iA 3),
        (3 : Int) = 3]) (by kernel_rfl)
      ⟨rfl, (by decide), rfl, (by decide), rfl, (by decide), rfl, ex50_19, rfl, trivial⟩

theorem ex81_21   : FnF Try.prog 81 true [iA 4, iA 3] (iA 1) :=
  fn_evF (by kernel_rfl) Try.func81 (by kernel_rfl) 400
      [.d, .d, .d, .v (iA 1), .d, .v (iA 4), .d, .v (iA 1), .d]
      (by kernel_rfl) (ob := [(iA ((4 : Int).tmod 3) : AV) = (iA 1 : AV),
        (3 : Int) ≠ 0,
        (iA (IntKind.wrap .i64 (1 + 3)) : AV) = (iA 4 : AV),
        (iA ((4 : Int).tmod 3) : AV) = (iA 1 : AV),
        (3 : Int) ≠ 0,
        (1 : Int) = 1]) (by kernel_rfl)
      ⟨rfl, (by decide), rfl, rfl, (by decide), rfl, trivial⟩

theorem ex46_22   : FnF Try.prog 46 true [iA 4, iA 10, iA 3, iA 0] (.agg [iA 4, iA 10, iA 3, iA 1, iA 0]) :=
  fn_evF (by kernel_rfl) Try.func46 (by kernel_rfl) 400
      [.d, .d, .d, .d, .d, .d, .d, .v (iA 6), .d, .v (iA 0), .v (iA 10), .d, .d, .d, .d, .d, .d, .d, .d, .d, .d, .f true (iA 1), .d, .d, .d]
      (by kernel_rfl) (ob := [(iA (IntKind.wrap .i64 (10 - 4)) : AV) = (iA 6 : AV),
        (iA ((6 : Int).tmod 3) : AV) = (iA 0 : AV),
        (3 : Int) ≠ 0,
        (iA (IntKind.wrap .i64 (10 - 0)) : AV) = (iA 10 : AV),
        FnF Try.prog 81 true [iA 4, iA 3] (iA 1),
        (4 : Int) = 4,
        (10 : Int) = 10,
        (3 : Int) = 3,
        (1 : Int) = 1,
        (0 : Int) = 0]) (by kernel_rfl)
      ⟨rfl, rfl, (by decide), rfl, ex81_21, rfl, rfl, rfl, rfl, rfl, trivial⟩

theorem ex17_23   : FnF Try.prog 17 true [.agg [iA 4, iA 10, iA 6, iA 4, iA 0], .agg [iA 7, iA 7, iA 1, iA 0, iA 0]] (.agg [iA 4, iA 10, iA 3, iA 1, iA 0]) :=
  fn_evF (by kernel_rfl) Try.func17 (by kernel_rfl) 400
      [.d, .d, .d, .d, .d, .d, .d, .d, .d, .d, .d, .d, .d, .d, .f true (iA 6), .d, .f true (iA 0), .d, .d, .d, .d, .v (iA (-3)), .f true (iA 3), .d, .f true (iA 3), .d, .d, .d, .d, .v (iA 0), .f true (.agg [iA 4, iA 10, iA 3, iA 1, iA 0]), .d]
      (by kernel_rfl) (ob := [FnF Try.prog 44 true [.agg [iA 4, iA 10, iA 6, iA 4, iA 0]] (iA 6),
        FnF Try.prog 44 true [.agg [iA 7, iA 7, iA 1, iA 0, iA 0]] (iA 0),
        (iA (IntKind.wrap .i64 (4 - 7)) : AV) = (iA (-3) : AV),
        FnF Try.prog 50 true [iA (-3)] (iA 3),
        FnF Try.prog 49 true [iA 6, .list [iA 0, iA 3]] (iA 3),
        ∀ e ∈ ([iA 0, iA 3] : List AV), idsOf e = [],
        (iA (bits .or .i64 0 0) : AV) = (iA 0 : AV),
        FnF Try.prog 46 true [iA 4, iA 10, iA 3, iA 0] (.agg [iA 4, iA 10, iA 3, iA 1, iA 0]),
        (4 : Int) = 4,
        (10 : Int) = 10,
        (3 : Int) = 3,
        (1 : Int) = 1,
        (0 : Int) = 0]) (by kernel_rfl)
      ⟨ex44_16, ex44_17, rfl, ex50_18, ex49_20, (by simp [idsOf, idsL, encA]), rfl, ex46_22, rfl, rfl, rfl, rfl, rfl, trivial⟩

theorem ex40_24   : FnF Try.prog 40 true [iA 4, iA 10, iA 3] (.agg [iA 4, iA 10, iA 3, iA 1, iA 0]) :=
  fn_evF (by kernel_rfl) Try.func40 (by kernel_rfl) 400
      [.d, .d, .d, .d, .d, .d, .d, .d, .d, .d, .v (iA 1), .d, .v (iA 4), .d, .v (iA 1), .d, .d]
      (by kernel_rfl) (ob := [(iA ((4 : Int).tmod 3) : AV) = (iA 1 : AV),
        (3 : Int) ≠ 0,
        (iA (IntKind.wrap .i64 (1 + 3)) : AV) = (iA 4 : AV),
        (iA ((4 : Int).tmod 3) : AV) = (iA 1 : AV),
        (3 : Int) ≠ 0,
        (4 : Int) = 4,
        (10 : Int) = 10,
        (3 : Int) = 3,
        (1 : Int) = 1,
        (0 : Int) = 0]) (by kernel_rfl)
      ⟨rfl, (by decide), rfl, rfl, (by decide), rfl, rfl, rfl, rfl, rfl, trivial⟩

theorem ex40_25   : FnF Try.prog 40 true [iA 0, iA 8, iA 4] (.agg [iA 0, iA 8, iA 4, iA 0, iA 0]) :=
  fn_evF (by kernel_rfl) Try.func40 (by kernel_rfl) 400
      [.d, .d, .d, .d, .d, .d, .d, .d, .d, .d, .v (iA 0), .d, .v (iA 4), .d, .v (iA 0), .d, .d]
      (by kernel_rfl) (ob := [(iA ((0 : Int).tmod 4) : AV) = (iA 0 : AV),
        (4 : Int) ≠ 0,
        (iA (IntKind.wrap .i64 (0 + 4)) : AV) = (iA 4 : AV),
        (iA ((4 : Int).tmod 4) : AV) = (iA 0 : AV),
        (4 : Int) ≠ 0,
        (0 : Int) = 0,
        (8 : Int) = 8,
        (4 : Int) = 4,
        (0 : Int) = 0,
        (0 : Int) = 0]) (by kernel_rfl)
      ⟨rfl, (by decide), rfl, rfl, (by decide), rfl, rfl, rfl, rfl, rfl, trivial⟩

theorem ex40_26   : FnF Try.prog 40 true [iA 1, iA 5, iA 2] (.agg [iA 1, iA 5, iA 2, iA 1, iA 0]) :=
  fn_evF (by kernel_rfl) Try.func40 (by kernel_rfl) 400
      [.d, .d, .d, .d, .d, .d, .d, .d, .d, .d, .v (iA 1), .d, .v (iA 3), .d, .v (iA 1), .d, .d]
      (by kernel_rfl) (ob := [(iA ((1 : Int).tmod 2) : AV) = (iA 1 : AV),
        (2 : Int) ≠ 0,
        (iA (IntKind.wrap .i64 (1 + 2)) : AV) = (iA 3 : AV),
        (iA ((3 : Int).tmod 2) : AV) = (iA 1 : AV),
        (2 : Int) ≠ 0,
        (1 : Int) = 1,
        (5 : Int) = 5,
        (2 : Int) = 2,
        (1 : Int) = 1,
        (0 : Int) = 0]) (by kernel_rfl)
      ⟨rfl, (by decide), rfl, rfl, (by decide), rfl, rfl, rfl, rfl, rfl, trivial⟩

theorem ex44_27   : FnF Try.prog 44 true [.agg [iA 0, iA 8, iA 4, iA 0, iA 0]] (iA 4) :=
  fn_evF (by kernel_rfl) Try.func44 (by kernel_rfl) 400
      [.d, .d, .d, .d, .d, .d, .d, .d, .d, .d, .d]
      (by kernel_rfl) (ob := [(4 : Int) = 4]) (by kernel_rfl)
      ⟨rfl, trivial⟩

theorem ex45_28   : FnF Try.prog 45 true [] (.agg [.func (.func 74) [] [], .func (.func 75) [] [], .func (.func 76) [] [], .func (.func 77) [] [], .func (.func 78) [] [], .func (.func 79) [] [], .func (.func 80) [] []]) :=
  fn_evF (by kernel_rfl) Try.func45 (by kernel_rfl) 400
      [.d, .d, .d]
      (by kernel_rfl) (ob := [(.func (.func 74) [] [] : AV) = (.func (.func 74) [] [] : AV),
        (.func (.func 75) [] [] : AV) = (.func (.func 75) [] [] : AV),
        (.func (.func 76) [] [] : AV) = (.func (.func 76) [] [] : AV),
        (.func (.func 77) [] [] : AV) = (.func (.func 77) [] [] : AV),
        (.func (.func 78) [] [] : AV) = (.func (.func 78) [] [] : AV),
        (.func (.func 79) [] [] : AV) = (.func (.func 79) [] [] : AV),
        (.func (.func 80) [] [] : AV) = (.func (.func 80) [] [] : AV)]) (by kernel_rfl)
      ⟨rfl, rfl, rfl, rfl, rfl, rfl, rfl, trivial⟩

theorem ex44_29   : FnF Try.prog 44 true [.agg [iA 1, iA 5, iA 2, iA 1, iA 0]] (iA 2) :=
  fn_evF (by kernel_rfl) Try.func44 (by kernel_rfl) 400
      [.d, .d, .d, .d, .d, .d, .d, .d, .d, .d, .d]
      (by kernel_rfl) (ob := [(2 : Int) = 2]) (by kernel_rfl)
      ⟨rfl, trivial⟩

theorem ex50_30   : FnF Try.prog 50 true [iA 2] (iA 2) :=
  fn_evF (by kernel_rfl) Try.func50 (by kernel_rfl) 400
      [.d, .d, .d, .v (iA (-2)), .d, .d]
      (by kernel_rfl) (ob := [(iA (IntKind.wrap .i64 (0 - 2)) : AV) = (iA (-2) : AV),
        (2 : Int) = 2]) (by kernel_rfl)
      ⟨rfl, rfl, trivial⟩

theorem ex49_31   : FnF Try.prog 49 true [iA 4, .list [iA 2]] (iA 2) :=
  fn_evF (by kernel_rfl) Try.func49 (by kernel_rfl) 400
      [.d, .d, .v (iA 1), .d, .d, .d, .d, .d, .d, .d, .d, .d, .d, .d, .d, .v (iA 0), .d, .d, .d, .d, .d, .v (iA 1), .d, .d, .d, .d, .f true (iA 2), .d]
      (by kernel_rfl) (ob := [(iA (([iA 2] : List AV).length : Int) : AV) = (iA 1 : AV),
        0 ≤ (0 : Int),
        (iA ((4 : Int).tmod 2) : AV) = (iA 0 : AV),
        (2 : Int) ≠ 0,
        (iA (IntKind.wrap .i64 (0 + 1)) : AV) = (iA 1 : AV),
        FnF Try.prog 50 true [iA 2] (iA 2),
        (2 : Int) = 2]) (by kernel_rfl)
      ⟨rfl, (by decide), rfl, (by decide), rfl, ex50_30, rfl, trivial⟩

theorem ex101_32   : FnF Try.prog 101 true [iA 1] (.bool true) :=
  fn_evF (by kernel_rfl) Try.func101 (by kernel_rfl) 400
      [.d, .d, .d, .d, .d, .d, .d, .d]
      (by kernel_rfl) (ob := [(true : Bool) = true]) (by kernel_rfl)
      ⟨rfl, trivial⟩

theorem ex101_33   : FnF Try.prog 101 true [iA 13] (.bool true) :=
  fn_evF (by kernel_rfl) Try.func101 (by kernel_rfl) 400
      [.d, .d, .d, .d, .d, .d, .d, .d]
      (by kernel_rfl) (ob := [(true : Bool) = true]) (by kernel_rfl)
      ⟨rfl, trivial⟩

theorem ex81_34   : FnF Try.prog 81 true [iA 1, iA 2] (iA 1) :=
  fn_evF (by kernel_rfl) Try.func81 (by kernel_rfl) 400
      [.d, .d, .d, .v (iA 1), .d, .v (iA 3), .d, .v (iA 1), .d]
      (by kernel_rfl) (ob := [(iA ((1 : Int).tmod 2) : AV) = (iA 1 : AV),
        (2 : Int) ≠ 0,
        (iA (IntKind.wrap .i64 (1 + 2)) : AV) = (iA 3 : AV),
        (iA ((3 : Int).tmod 2) : AV) = (iA 1 : AV),
        (2 : Int) ≠ 0,
        (1 : Int) = 1]) (by kernel_rfl)
      ⟨rfl, (by decide), rfl, rfl, (by decide), rfl, trivial⟩

theorem ex46_35   : FnF Try.prog 46 true [iA 1, iA 13, iA 2, iA 0] (.agg [iA 1, iA 13, iA 2, iA 1, iA 0]) :=
  fn_evF (by kernel_rfl) Try.func46 (by kernel_rfl) 400
      [.d, .d, .d, .d, .d, .d, .d, .v (iA 12), .d, .v (iA 0), .v (iA 13), .d, .d, .d, .d, .d, .d, .d, .d, .d, .d, .f true (iA 1), .d, .d, .d]
      (by kernel_rfl) (ob := [(iA (IntKind.wrap .i64 (13 - 1)) : AV) = (iA 12 : AV),
        (iA ((12 : Int).tmod 2) : AV) = (iA 0 : AV),
        (2 : Int) ≠ 0,
        (iA (IntKind.wrap .i64 (13 - 0)) : AV) = (iA 13 : AV),
        FnF Try.prog 81 true [iA 1, iA 2] (iA 1),
        (1 : Int) = 1,
        (13 : Int) = 13,
        (2 : Int) = 2,
        (1 : Int) = 1,
        (0 : Int) = 0]) (by kernel_rfl)
      ⟨rfl, rfl, (by decide), rfl, ex81_34, rfl, rfl, rfl, rfl, rfl, trivial⟩

theorem ex100_36   : FnF Try.prog 100 true [.agg [iA 0, iA 8, iA 4, iA 0, iA 0, iA 1, iA 5, iA 2, iA 1, iA 0, iA 0], iA 1, iA 13, iA 2] (.agg [iA 1, iA 13, iA 2, iA 1, iA 0]) :=
  fn_evF (by kernel_rfl) Try.func100 (by kernel_rfl) 400
      [.d, .d, .d, .f true (.bool true), .d, .d, .f true (.bool true), .d, .d, .d, .d, .d, .d, .d, .f true (.agg [iA 1, iA 13, iA 2, iA 1, iA 0]), .d]
      (by kernel_rfl) (ob := [FnF Try.prog 101 true [iA 1] (.bool true),
        FnF Try.prog 101 true [iA 13] (.bool true),
        FnF Try.prog 46 true [iA 1, iA 13, iA 2, iA 0] (.agg [iA 1, iA 13, iA 2, iA 1, iA 0]),
        (1 : Int) = 1,
        (13 : Int) = 13,
        (2 : Int) = 2,
        (1 : Int) = 1,
        (0 : Int) = 0]) (by kernel_rfl)
      ⟨ex101_32, ex101_33, ex46_35, rfl, rfl, rfl, rfl, rfl, trivial⟩

theorem ex74_37   : FnF Try.prog 74 true [.agg [iA 0, iA 8, iA 4, iA 0, iA 0, iA 1, iA 5, iA 2, iA 1, iA 0, iA 0]] (.agg [iA 1, iA 13, iA 2, iA 1, iA 0]) :=
  fn_evF (by kernel_rfl) Try.func74 (by kernel_rfl) 400
      [.d, .d, .d, .d, .d, .d, .d, .d, .d, .v (iA 1), .d, .d, .d, .d, .d, .d, .v (iA 13), .d, .d, .f true (iA 4), .d, .d, .f true (iA 2), .d, .f true (iA 2), .f true (.agg [iA 1, iA 13, iA 2, iA 1, iA 0]), .d]
      (by kernel_rfl) (ob := [(iA (IntKind.wrap .i64 (0 + 1)) : AV) = (iA 1 : AV),
        (iA (IntKind.wrap .i64 (8 + 5)) : AV) = (iA 13 : AV),
        FnF Try.prog 44 true [.agg [iA 0, iA 8, iA 4, iA 0, iA 0]] (iA 4),
        FnF Try.prog 44 true [.agg [iA 1, iA 5, iA 2, iA 1, iA 0]] (iA 2),
        FnF Try.prog 49 true [iA 4, .list [iA 2]] (iA 2),
        ∀ e ∈ ([iA 2] : List AV), idsOf e = [],
        FnF Try.prog 100 true [.agg [iA 0, iA 8, iA 4, iA 0, iA 0, iA 1, iA 5, iA 2, iA 1, iA 0, iA 0], iA 1, iA 13, iA 2] (.agg [iA 1, iA 13, iA 2, iA 1, iA 0]),
        (1 : Int) = 1,
        (13 : Int) = 13,
        (2 : Int) = 2,
        (1 : Int) = 1,
        (0 : Int) = 0]) (by kernel_rfl)
      ⟨rfl, rfl, ex44_27, ex44_29, ex49_31, (by simp [idsOf, idsL, encA]), ex100_36, rfl, rfl, rfl, rfl, rfl, trivial⟩

theorem ex14_38   : FnF Try.prog 14 true [iA 4, .agg [iA 0, iA 8, iA 4, iA 0, iA 0], .agg [iA 1, iA 5, iA 2, iA 1, iA 0]] (.agg [iA 1, iA 13, iA 2, iA 1, iA 0]) :=
  fn_evF (by kernel_rfl) Try.func14 (by kernel_rfl) 400
      [.d, .d, .d, .d, .d, .d, .d, .d, .d, .v (iA 0), .d, .d, .d, .d, .f true (iA 4), .d, .d, .d, .d, .d, .d, .d, .d, .d, .d, .d, .d, .d, .d, .d, .f true (.agg [.func (.func 74) [] [], .func (.func 75) [] [], .func (.func 76) [] [], .func (.func 77) [] [], .func (.func 78) [] [], .func (.func 79) [] [], .func (.func 80) [] []]), .d, .v (iA 0), .d, .d, .f true (.agg [iA 1, iA 13, iA 2, iA 1, iA 0]), .d]
      (by kernel_rfl) (ob := [(iA (bits .or .i64 0 0) : AV) = (iA 0 : AV),
        FnF Try.prog 44 true [.agg [iA 0, iA 8, iA 4, iA 0, iA 0]] (iA 4),
        FnF Try.prog 45 true [] (.agg [.func (.func 74) [] [], .func (.func 75) [] [], .func (.func 76) [] [], .func (.func 77) [] [], .func (.func 78) [] [], .func (.func 79) [] [], .func (.func 80) [] []]),
        (iA (IntKind.wrap .i64 (4 - 4)) : AV) = (iA 0 : AV),
        0 ≤ (0 : Int) ∧ (0 : Int) < (7 : Nat),
        FnF Try.prog 74 true [.agg [iA 0, iA 8, iA 4, iA 0, iA 0, iA 1, iA 5, iA 2, iA 1, iA 0, iA 0]] (.agg [iA 1, iA 13, iA 2, iA 1, iA 0]),
        (1 : Int) = 1,
        (13 : Int) = 13,
        (2 : Int) = 2,
        (1 : Int) = 1,
        (0 : Int) = 0]) (by kernel_rfl)
      ⟨rfl, ex44_27, ex45_28, rfl, (by decide), ex74_37, rfl, rfl, rfl, rfl, rfl, trivial⟩

theorem ex40_39   : FnF Try.prog 40 true [iA 1, iA 13, iA 2] (.agg [iA 1, iA 13, iA 2, iA 1, iA 0]) :=
  fn_evF (by kernel_rfl) Try.func40 (by kernel_rfl) 400
      [.d, .d, .d, .d, .d, .d, .d, .d, .d, .d, .v (iA 1), .d, .v (iA 3), .d, .v (iA 1), .d, .d]
      (by kernel_rfl) (ob := [(iA ((1 : Int).tmod 2) : AV) = (iA 1 : AV),
        (2 : Int) ≠ 0,
        (iA (IntKind.wrap .i64 (1 + 2)) : AV) = (iA 3 : AV),
        (iA ((3 : Int).tmod 2) : AV) = (iA 1 : AV),
        (2 : Int) ≠ 0,
        (1 : Int) = 1,
        (13 : Int) = 13,
        (2 : Int) = 2,
        (1 : Int) = 1,
        (0 : Int) = 0]) (by kernel_rfl)
      ⟨rfl, (by decide), rfl, rfl, (by decide), rfl, rfl, rfl, rfl, rfl, trivial⟩

theorem ex40_40   : FnF Try.prog 40 true [iA 0, iA 9, iA 1] (.agg [iA 0, iA 9, iA 1, iA 0, iA 0]) :=
  fn_evF (by kernel_rfl) Try.func40 (by kernel_rfl) 400
      [.d, .d, .d, .d, .d, .d, .d, .d, .d, .d, .v (iA 0), .d, .v (iA 1), .d, .v (iA 0), .d, .d]
      (by kernel_rfl) (ob := [(iA ((0 : Int).tmod 1) : AV) = (iA 0 : AV),
        (1 : Int) ≠ 0,
        (iA (IntKind.wrap .i64 (0 + 1)) : AV) = (iA 1 : AV),
        (iA ((1 : Int).tmod 1) : AV) = (iA 0 : AV),
        (1 : Int) ≠ 0,
        (0 : Int) = 0,
        (9 : Int) = 9,
        (1 : Int) = 1,
        (0 : Int) = 0,
        (0 : Int) = 0]) (by kernel_rfl)
      ⟨rfl, (by decide), rfl, rfl, (by decide), rfl, rfl, rfl, rfl, rfl, trivial⟩

theorem ex44_41   : FnF Try.prog 44 true [.agg [iA 0, iA 9, iA 1, iA 0, iA 0]] (iA 1) :=
  fn_evF (by kernel_rfl) Try.func44 (by kernel_rfl) 400
      [.d, .d, .d, .d, .d, .d, .d, .d, .d, .d, .d]
      (by kernel_rfl) (ob := [(1 : Int) = 1]) (by kernel_rfl)
      ⟨rfl, trivial⟩

theorem ex50_42   : FnF Try.prog 50 true [iA 4] (iA 4) :=
  fn_evF (by kernel_rfl) Try.func50 (by kernel_rfl) 400
      [.d, .d, .d, .v (iA (-4)), .d, .d]
      (by kernel_rfl) (ob := [(iA (IntKind.wrap .i64 (0 - 4)) : AV) = (iA (-4) : AV),
        (4 : Int) = 4]) (by kernel_rfl)
      ⟨rfl, rfl, trivial⟩

theorem ex50_43   : FnF Try.prog 50 true [iA 1] (iA 1) :=
  fn_evF (by kernel_rfl) Try.func50 (by kernel_rfl) 400
      [.d, .d, .d, .v (iA (-1)), .d, .d]
      (by kernel_rfl) (ob := [(iA (IntKind.wrap .i64 (0 - 1)) : AV) = (iA (-1) : AV),
        (1 : Int) = 1]) (by kernel_rfl)
      ⟨rfl, rfl, trivial⟩

theorem ex49_44   : FnF Try.prog 49 true [iA 1, .list [iA 4]] (iA 1) :=
  fn_evF (by kernel_rfl) Try.func49 (by kernel_rfl) 400
      [.d, .d, .v (iA 1), .d, .d, .d, .d, .d, .d, .d, .d, .d, .d, .d, .d, .v (iA 1), .d, .d, .d, .d, .d, .d, .d, .d, .v (iA 0), .d, .d, .d, .d, .d, .v (iA 1), .d, .d, .d, .d, .f true (iA 1), .d]
      (by kernel_rfl) (ob := [(iA (([iA 4] : List AV).length : Int) : AV) = (iA 1 : AV),
        0 ≤ (0 : Int),
        (iA ((1 : Int).tmod 4) : AV) = (iA 1 : AV),
        (4 : Int) ≠ 0,
        (iA ((4 : Int).tmod 1) : AV) = (iA 0 : AV),
        (1 : Int) ≠ 0,
        (iA (IntKind.wrap .i64 (0 + 1)) : AV) = (iA 1 : AV),
        FnF Try.prog 50 true [iA 1] (iA 1),
        (1 : Int) = 1]) (by kernel_rfl)
      ⟨rfl, (by decide), rfl, (by decide), rfl, (by decide), rfl, ex50_43, rfl, trivial⟩

theorem ex81_45   : FnF Try.prog 81 true [iA 0, iA 1] (iA 0) :=
  fn_evF (by kernel_rfl) Try.func81 (by kernel_rfl) 400
      [.d, .d, .d, .v (iA 0), .d, .v (iA 1), .d, .v (iA 0), .d]
      (by kernel_rfl) (ob := [(iA ((0 : Int).tmod 1) : AV) = (iA 0 : AV),
        (1 : Int) ≠ 0,
        (iA (IntKind.wrap .i64 (0 + 1)) : AV) = (iA 1 : AV),
        (iA ((1 : Int).tmod 1) : AV) = (iA 0 : AV),
        (1 : Int) ≠ 0,
        (0 : Int) = 0]) (by kernel_rfl)
      ⟨rfl, (by decide), rfl, rfl, (by decide), rfl, trivial⟩

theorem ex46_46   : FnF Try.prog 46 true [iA 0, iA 3, iA 1, iA 0] (.agg [iA 0, iA 3, iA 1, iA 0, iA 0]) :=
  fn_evF (by kernel_rfl) Try.func46 (by kernel_rfl) 400
      [.d, .d, .d, .d, .d, .d, .d, .v (iA 3), .d, .v (iA 0), .v (iA 3), .d, .d, .d, .d, .d, .d, .d, .d, .d, .d, .f true (iA 0), .d, .d, .d]
      (by kernel_rfl) (ob := [(iA (IntKind.wrap .i64 (3 - 0)) : AV) = (iA 3 : AV),
        (iA ((3 : Int).tmod 1) : AV) = (iA 0 : AV),
        (1 : Int) ≠ 0,
        (iA (IntKind.wrap .i64 (3 - 0)) : AV) = (iA 3 : AV),
        FnF Try.prog 81 true [iA 0, iA 1] (iA 0),
        (0 : Int) = 0,
        (3 : Int) = 3,
        (1 : Int) = 1,
        (0 : Int) = 0,
        (0 : Int) = 0]) (by kernel_rfl)
      ⟨rfl, rfl, (by decide), rfl, ex81_45, rfl, rfl, rfl, rfl, rfl, trivial⟩

theorem ex51_47   : FnF Try.prog 51 true [iA 0, iA 1, iA 0, iA 3, iA 0] (.agg [iA 0, iA 3, iA 1, iA 0, iA 0]) :=
  fn_evF (by kernel_rfl) Try.func51 (by kernel_rfl) 400
      [.d, .d, .d, .d, .v (iA 0), .d, .f true (iA 0), .v (iA 0), .d, .d, .d, .f true (.agg [iA 0, iA 3, iA 1, iA 0, iA 0]), .d]
      (by kernel_rfl) (ob := [(iA (IntKind.wrap .i64 (0 - 0)) : AV) = (iA 0 : AV),
        FnF Try.prog 81 true [iA 0, iA 1] (iA 0),
        (iA (IntKind.wrap .i64 (0 + 0)) : AV) = (iA 0 : AV),
        FnF Try.prog 46 true [iA 0, iA 3, iA 1, iA 0] (.agg [iA 0, iA 3, iA 1, iA 0, iA 0]),
        (0 : Int) = 0,
        (3 : Int) = 3,
        (1 : Int) = 1,
        (0 : Int) = 0,
        (0 : Int) = 0]) (by kernel_rfl)
      ⟨rfl, ex81_45, rfl, ex46_46, rfl, rfl, rfl, rfl, rfl, trivial⟩

theorem ex78_48   : FnF Try.prog 78 true [.agg [iA 0, iA 9, iA 1, iA 0, iA 0, iA 4, iA 4, iA 1, iA 0, iA 0, iA 0]] (.agg [iA 0, iA 3, iA 1, iA 0, iA 0]) :=
  fn_evF (by kernel_rfl) Try.func78 (by kernel_rfl) 400
      [.d, .d, .d, .d, .d, .d, .d, .f true (iA 4), .d, .d, .d, .d, .d, .f true (iA 0), .d, .d, .d, .d, .d, .d, .d, .d, .d, .d, .d, .d, .d, .d, .d, .d, .d, .d, .d, .d, .d, .d, .d, .f true (iA 1), .d, .d, .f true (iA 1), .d, .d, .d, .d, .v (iA (-3)), .d, .d, .d, .d, .d, .v (iA 3), .d, .d, .d, .f true (.agg [iA 0, iA 3, iA 1, iA 0, iA 0]), .d]
      (by kernel_rfl) (ob := [FnF Try.prog 50 true [iA 4] (iA 4),
        FnF Try.prog 44 true [.agg [iA 4, iA 4, iA 1, iA 0, iA 0]] (iA 0),
        FnF Try.prog 44 true [.agg [iA 0, iA 9, iA 1, iA 0, iA 0]] (iA 1),
        FnF Try.prog 49 true [iA 1, .list [iA 4]] (iA 1),
        ∀ e ∈ ([iA 4] : List AV), idsOf e = [],
        (iA (IntKind.wrap .i64 (1 - 4)) : AV) = (iA (-3) : AV),
        (iA (IntKind.wrap .i64 (4 - 1)) : AV) = (iA 3 : AV),
        FnF Try.prog 51 true [iA 0, iA 1, iA 0, iA 3, iA 0] (.agg [iA 0, iA 3, iA 1, iA 0, iA 0]),
        (0 : Int) = 0,
        (3 : Int) = 3,
        (1 : Int) = 1,
        (0 : Int) = 0,
        (0 : Int) = 0]) (by kernel_rfl)
      ⟨ex50_42, ex44_5, ex44_41, ex49_44, (by simp [idsOf, idsL, encA]), rfl, rfl, ex51_47, rfl, rfl, rfl, rfl, rfl, trivial⟩

theorem ex14_49   : FnF Try.prog 14 true [iA 8, .agg [iA 0, iA 9, iA 1, iA 0, iA 0], .agg [iA 4, iA 4, iA 1, iA 0, iA 0]] (.agg [iA 0, iA 3, iA 1, iA 0, iA 0]) :=
  fn_evF (by kernel_rfl) Try.func14 (by kernel_rfl) 400
      [.d, .d, .d, .d, .d, .d, .d, .d, .d, .v (iA 0), .d, .d, .d, .d, .f true (iA 1), .d, .d, .d, .d, .d, .d, .d, .d, .d, .d, .d, .d, .d, .d, .d, .f true (.agg [.func (.func 74) [] [], .func (.func 75) [] [], .func (.func 76) [] [], .func (.func 77) [] [], .func (.func 78) [] [], .func (.func 79) [] [], .func (.func 80) [] []]), .d, .v (iA 4), .d, .d, .f true (.agg [iA 0, iA 3, iA 1, iA 0, iA 0]), .d]
      (by kernel_rfl) (ob := [(iA (bits .or .i64 0 0) : AV) = (iA 0 : AV),
        FnF Try.prog 44 true [.agg [iA 0, iA 9, iA 1, iA 0, iA 0]] (iA 1),
        FnF Try.prog 45 true [] (.agg [.func (.func 74) [] [], .func (.func 75) [] [], .func (.func 76) [] [], .func (.func 77) [] [], .func (.func 78) [] [], .func (.func 79) [] [], .func (.func 80) [] []]),
        (iA (IntKind.wrap .i64 (8 - 4)) : AV) = (iA 4 : AV),
        0 ≤ (4 : Int) ∧ (4 : Int) < (7 : Nat),
        FnF Try.prog 78 true [.agg [iA 0, iA 9, iA 1, iA 0, iA 0, iA 4, iA 4, iA 1, iA 0, iA 0, iA 0]] (.agg [iA 0, iA 3, iA 1, iA 0, iA 0]),
        (0 : Int) = 0,
        (3 : Int) = 3,
        (1 : Int) = 1,
        (0 : Int) = 0,
        (0 : Int) = 0]) (by kernel_rfl)
      ⟨rfl, ex44_41, ex45_28, rfl, (by decide), ex78_48, rfl, rfl, rfl, rfl, rfl, trivial⟩

theorem ex40_50   : FnF Try.prog 40 true [iA 0, iA 3, iA 1] (.agg [iA 0, iA 3, iA 1, iA 0, iA 0]) :=
  fn_evF (by kernel_rfl) Try.func40 (by kernel_rfl) 400
      [.d, .d, .d, .d, .d, .d, .d, .d, .d, .d, .v (iA 0), .d, .v (iA 1), .d, .v (iA 0), .d, .d]
      (by kernel_rfl) (ob := [(iA ((0 : Int).tmod 1) : AV) = (iA 0 : AV),
        (1 : Int) ≠ 0,
        (iA (IntKind.wrap .i64 (0 + 1)) : AV) = (iA 1 : AV),
        (iA ((1 : Int).tmod 1) : AV) = (iA 0 : AV),
        (1 : Int) ≠ 0,
        (0 : Int) = 0,
        (3 : Int) = 3,
        (1 : Int) = 1,
        (0 : Int) = 0,
        (0 : Int) = 0]) (by kernel_rfl)
      ⟨rfl, (by decide), rfl, rfl, (by decide), rfl, rfl, rfl, rfl, rfl, trivial⟩

theorem ex49_51   : FnF Try.prog 49 true [iA 4, .list [iA 4]] (iA 4) :=
  fn_evF (by kernel_rfl) Try.func49 (by kernel_rfl) 400
      [.d, .d, .v (iA 1), .d, .d, .d, .d, .d, .d, .d, .d, .d, .d, .d, .d, .v (iA 0), .d, .d, .d, .d, .d, .v (iA 1), .d, .d, .d, .d, .f true (iA 4), .d]
      (by kernel_rfl) (ob := [(iA (([iA 4] : List AV).length : Int) : AV) = (iA 1 : AV),
        0 ≤ (0 : Int),
        (iA ((4 : Int).tmod 4) : AV) = (iA 0 : AV),
        (4 : Int) ≠ 0,
        (iA (IntKind.wrap .i64 (0 + 1)) : AV) = (iA 1 : AV),
        FnF Try.prog 50 true [iA 4] (iA 4),
        (4 : Int) = 4]) (by kernel_rfl)
      ⟨rfl, (by decide), rfl, (by decide), rfl, ex50_42, rfl, trivial⟩

theorem ex81_52   : FnF Try.prog 81 true [iA 0, iA 4] (iA 0) :=
  fn_evF (by kernel_rfl) Try.func81 (by kernel_rfl) 400
      [.d, .d, .d, .v (iA 0), .d, .v (iA 4), .d, .v (iA 0), .d]
      (by kernel_rfl) (ob := [(iA ((0 : Int).tmod 4) : AV) = (iA 0 : AV),
        (4 : Int) ≠ 0,
        (iA (IntKind.wrap .i64 (0 + 4)) : AV) = (iA 4 : AV),
        (iA ((4 : Int).tmod 4) : AV) = (iA 0 : AV),
        (4 : Int) ≠ 0,
        (0 : Int) = 0]) (by kernel_rfl)
      ⟨rfl, (by decide), rfl, rfl, (by decide), rfl, trivial⟩

theorem ex46_53   : FnF Try.prog 46 true [iA 0, iA 3, iA 4, iA 0] (.agg [iA 0, iA 0, iA 1, iA 0, iA 0]) :=
  fn_evF (by kernel_rfl) Try.func46 (by kernel_rfl) 400
      [.d, .d, .d, .d, .d, .d, .d, .v (iA 3), .d, .v (iA 3), .v (iA 0), .d, .d, .d, .d, .d, .d, .d, .d, .d, .d]
      (by kernel_rfl) (ob := [(iA (IntKind.wrap .i64 (3 - 0)) : AV) = (iA 3 : AV),
        (iA ((3 : Int).tmod 4) : AV) = (iA 3 : AV),
        (4 : Int) ≠ 0,
        (iA (IntKind.wrap .i64 (3 - 3)) : AV) = (iA 0 : AV),
        (0 : Int) = 0,
        (0 : Int) = 0,
        (1 : Int) = 1,
        (0 : Int) = 0,
        (0 : Int) = 0]) (by kernel_rfl)
      ⟨rfl, rfl, (by decide), rfl, rfl, rfl, rfl, rfl, rfl, trivial⟩

theorem ex51_54   : FnF Try.prog 51 true [iA 0, iA 4, iA 0, iA 3, iA 0] (.agg [iA 0, iA 0, iA 1, iA 0, iA 0]) :=
  fn_evF (by kernel_rfl) Try.func51 (by kernel_rfl) 400
      [.d, .d, .d, .d, .v (iA 0), .d, .f true (iA 0), .v (iA 0), .d, .d, .d, .f true (.agg [iA 0, iA 0, iA 1, iA 0, iA 0]), .d]
      (by kernel_rfl) (ob := [(iA (IntKind.wrap .i64 (0 - 0)) : AV) = (iA 0 : AV),
        FnF Try.prog 81 true [iA 0, iA 4] (iA 0),
        (iA (IntKind.wrap .i64 (0 + 0)) : AV) = (iA 0 : AV),
        FnF Try.prog 46 true [iA 0, iA 3, iA 4, iA 0] (.agg [iA 0, iA 0, iA 1, iA 0, iA 0]),
        (0 : Int) = 0,
        (0 : Int) = 0,
        (1 : Int) = 1,
        (0 : Int) = 0,
        (0 : Int) = 0]) (by kernel_rfl)
      ⟨rfl, ex81_52, rfl, ex46_53, rfl, rfl, rfl, rfl, rfl, trivial⟩

theorem ex78_55   : FnF Try.prog 78 true [.agg [iA 0, iA 8, iA 4, iA 0, iA 0, iA 4, iA 4, iA 1, iA 0, iA 0, iA 0]] (.agg [iA 0, iA 0, iA 1, iA 0, iA 0]) :=
  fn_evF (by kernel_rfl) Try.func78 (by kernel_rfl) 400
      [.d, .d, .d, .d, .d, .d, .d, .f true (iA 4), .d, .d, .d, .d, .d, .f true (iA 0), .d, .d, .d, .d, .d, .d, .d, .d, .d, .d, .d, .d, .d, .d, .d, .d, .d, .d, .d, .d, .d, .d, .d, .f true (iA 4), .d, .d, .f true (iA 4), .d, .d, .d, .d, .v (iA (-3)), .d, .d, .d, .d, .d, .v (iA 3), .d, .d, .d, .f true (.agg [iA 0, iA 0, iA 1, iA 0, iA 0]), .d]
      (by kernel_rfl) (ob := [FnF Try.prog 50 true [iA 4] (iA 4),
        FnF Try.prog 44 true [.agg [iA 4, iA 4, iA 1, iA 0, iA 0]] (iA 0),
        FnF Try.prog 44 true [.agg [iA 0, iA 8, iA 4, iA 0, iA 0]] (iA 4),
        FnF Try.prog 49 true [iA 4, .list [iA 4]] (iA 4),
        ∀ e ∈ ([iA 4] : List AV), idsOf e = [],
        (iA (IntKind.wrap .i64 (1 - 4)) : AV) = (iA (-3) : AV),
        (iA (IntKind.wrap .i64 (4 - 1)) : AV) = (iA 3 : AV),
        FnF Try.prog 51 true [iA 0, iA 4, iA 0, iA 3, iA 0] (.agg [iA 0, iA 0, iA 1, iA 0, iA 0]),
        (0 : Int) = 0,
        (0 : Int) = 0,
        (1 : Int) = 1,
        (0 : Int) = 0,
        (0 : Int) = 0]) (by kernel_rfl)
      ⟨ex50_42, ex44_5, ex44_27, ex49_51, (by simp [idsOf, idsL, encA]), rfl, rfl, ex51_54, rfl, rfl, rfl, rfl, rfl, trivial⟩

theorem ex14_56   : FnF Try.prog 14 true [iA 8, .agg [iA 0, iA 8, iA 4, iA 0, iA 0], .agg [iA 4, iA 4, iA 1, iA 0, iA 0]] (.agg [iA 0, iA 0, iA 1, iA 0, iA 0]) :=
  fn_evF (by kernel_rfl) Try.func14 (by kernel_rfl) 400
      [.d, .d, .d, .d, .d, .d, .d, .d, .d, .v (iA 0), .d, .d, .d, .d, .f true (iA 4), .d, .d, .d, .d, .d, .d, .d, .d, .d, .d, .d, .d, .d, .d, .d, .f true (.agg [.func (.func 74) [] [], .func (.func 75) [] [], .func (.func 76) [] [], .func (.func 77) [] [], .func (.func 78) [] [], .func (.func 79) [] [], .func (.func 80) [] []]), .d, .v (iA 4), .d, .d, .f true (.agg [iA 0, iA 0, iA 1, iA 0, iA 0]), .d]
      (by kernel_rfl) (ob := [(iA (bits .or .i64 0 0) : AV) = (iA 0 : AV),
        FnF Try.prog 44 true [.agg [iA 0, iA 8, iA 4, iA 0, iA 0]] (iA 4),
        FnF Try.prog 45 true [] (.agg [.func (.func 74) [] [], .func (.func 75) [] [], .func (.func 76) [] [], .func (.func 77) [] [], .func (.func 78) [] [], .func (.func 79) [] [], .func (.func 80) [] []]),
        (iA (IntKind.wrap .i64 (8 - 4)) : AV) = (iA 4 : AV),
        0 ≤ (4 : Int) ∧ (4 : Int) < (7 : Nat),
        FnF Try.prog 78 true [.agg [iA 0, iA 8, iA 4, iA 0, iA 0, iA 4, iA 4, iA 1, iA 0, iA 0, iA 0]] (.agg [iA 0, iA 0, iA 1, iA 0, iA 0]),
        (0 : Int) = 0,
        (0 : Int) = 0,
        (1 : Int) = 1,
        (0 : Int) = 0,
        (0 : Int) = 0]) (by kernel_rfl)
      ⟨rfl, ex44_27, ex45_28, rfl, (by decide), ex78_55, rfl, rfl, rfl, rfl, rfl, trivial⟩

theorem ex40_57   : FnF Try.prog 40 true [iA 0, iA 0, iA 1] (.agg [iA 0, iA 0, iA 1, iA 0, iA 0]) :=
  fn_evF (by kernel_rfl) Try.func40 (by kernel_rfl) 400
      [.d, .d, .d, .d, .d, .d, .d, .d, .d]
      (by kernel_rfl) (ob := [(0 : Int) = 0,
        (0 : Int) = 0,
        (1 : Int) = 1,
        (0 : Int) = 0,
        (0 : Int) = 0]) (by kernel_rfl)
      ⟨rfl, rfl, rfl, rfl, rfl, trivial⟩

theorem ex39_58   : FnF Try.prog 39 true [iA 0] (.agg [iA 0, iA 0, iA 1, iA 0, iA 0]) :=
  fn_evF (by kernel_rfl) Try.func39 (by kernel_rfl) 400
      [.d, .d, .d, .f true (.agg [iA 0, iA 0, iA 1, iA 0, iA 0]), .d]
      (by kernel_rfl) (ob := [FnF Try.prog 40 true [iA 0, iA 0, iA 1] (.agg [iA 0, iA 0, iA 1, iA 0, iA 0]),
        (0 : Int) = 0,
        (0 : Int) = 0,
        (1 : Int) = 1,
        (0 : Int) = 0,
        (0 : Int) = 0]) (by kernel_rfl)
      ⟨ex40_57, rfl, rfl, rfl, rfl, rfl, trivial⟩

theorem ex40_59   : FnF Try.prog 40 true [iA 2147483647, iA 2147483647, iA 1] (.agg [iA 2147483647, iA 2147483647, iA 1, iA 0, iA 0]) :=
  fn_evF (by kernel_rfl) Try.func40 (by kernel_rfl) 400
      [.d, .d, .d, .d, .d, .d, .d, .d, .d]
      (by kernel_rfl) (ob := [(2147483647 : Int) = 2147483647,
        (2147483647 : Int) = 2147483647,
        (1 : Int) = 1,
        (0 : Int) = 0,
        (0 : Int) = 0]) (by kernel_rfl)
      ⟨rfl, rfl, rfl, rfl, rfl, trivial⟩

theorem ex39_60   : FnF Try.prog 39 true [iA 2147483647] (.agg [iA 2147483647, iA 2147483647, iA 1, iA 0, iA 0]) :=
  fn_evF (by kernel_rfl) Try.func39 (by kernel_rfl) 400
      [.d, .d, .d, .f true (.agg [iA 2147483647, iA 2147483647, iA 1, iA 0, iA 0]), .d]
      (by kernel_rfl) (ob := [FnF Try.prog 40 true [iA 2147483647, iA 2147483647, iA 1] (.agg [iA 2147483647, iA 2147483647, iA 1, iA 0, iA 0]),
        (2147483647 : Int) = 2147483647,
        (2147483647 : Int) = 2147483647,
        (1 : Int) = 1,
        (0 : Int) = 0,
        (0 : Int) = 0]) (by kernel_rfl)
      ⟨ex40_59, rfl, rfl, rfl, rfl, rfl, trivial⟩

theorem ex40_61   : FnF Try.prog 40 true [iA 1, iA 3, iA 2] (.agg [iA 1, iA 3, iA 2, iA 1, iA 0]) :=
  fn_evF (by kernel_rfl) Try.func40 (by kernel_rfl) 400
      [.d, .d, .d, .d, .d, .d, .d, .d, .d, .d, .v (iA 1), .d, .v (iA 3), .d, .v (iA 1), .d, .d]
      (by kernel_rfl) (ob := [(iA ((1 : Int).tmod 2) : AV) = (iA 1 : AV),
        (2 : Int) ≠ 0,
        (iA (IntKind.wrap .i64 (1 + 2)) : AV) = (iA 3 : AV),
        (iA ((3 : Int).tmod 2) : AV) = (iA 1 : AV),
        (2 : Int) ≠ 0,
        (1 : Int) = 1,
        (3 : Int) = 3,
        (2 : Int) = 2,
        (1 : Int) = 1,
        (0 : Int) = 0]) (by kernel_rfl)
      ⟨rfl, (by decide), rfl, rfl, (by decide), rfl, rfl, rfl, rfl, rfl, trivial⟩

theorem ex44_62   : FnF Try.prog 44 true [.agg [iA 2147483647, iA 2147483647, iA 1, iA 0, iA 0]] (iA 0) :=
  fn_evF (by kernel_rfl) Try.func44 (by kernel_rfl) 400
      [.d, .d, .d, .d, .d, .d, .d, .d, .d]
      (by kernel_rfl) (ob := [(0 : Int) = 0]) (by kernel_rfl)
      ⟨rfl, trivial⟩

theorem ex44_63   : FnF Try.prog 44 true [.agg [iA 1, iA 3, iA 2, iA 1, iA 0]] (iA 2) :=
  fn_evF (by kernel_rfl) Try.func44 (by kernel_rfl) 400
      [.d, .d, .d, .d, .d, .d, .d, .d, .d, .d, .d]
      (by kernel_rfl) (ob := [(2 : Int) = 2]) (by kernel_rfl)
      ⟨rfl, trivial⟩

theorem ex49_64   : FnF Try.prog 49 true [iA 0, .list [iA 2]] (iA 2) :=
  fn_evF (by kernel_rfl) Try.func49 (by kernel_rfl) 400
      [.d, .d, .v (iA 1), .d, .d, .d, .d, .d, .d, .d, .d, .d, .d, .d, .d, .v (iA 0), .d, .d, .d, .d, .d, .v (iA 1), .d, .d, .d, .d, .f true (iA 2), .d]
      (by kernel_rfl) (ob := [(iA (([iA 2] : List AV).length : Int) : AV) = (iA 1 : AV),
        0 ≤ (0 : Int),
        (iA ((0 : Int).tmod 2) : AV) = (iA 0 : AV),
        (2 : Int) ≠ 0,
        (iA (IntKind.wrap .i64 (0 + 1)) : AV) = (iA 1 : AV),
        FnF Try.prog 50 true [iA 2] (iA 2),
        (2 : Int) = 2]) (by kernel_rfl)
      ⟨rfl, (by decide), rfl, (by decide), rfl, ex50_30, rfl, trivial⟩

theorem ex101_65   : FnF Try.prog 101 true [iA 2147483648] (.bool false) :=
  fn_evF (by kernel_rfl) Try.func101 (by kernel_rfl) 400
      [.d, .d, .d, .d, .d, .d, .d, .d]
      (by kernel_rfl) (ob := [(false : Bool) = false]) (by kernel_rfl)
      ⟨rfl, trivial⟩

theorem ex49_66   : FnF Try.prog 49 true [iA 4294967296, .list [iA 2]] (iA 2) :=
  fn_evF (by kernel_rfl) Try.func49 (by kernel_rfl) 400
      [.d, .d, .v (iA 1), .d, .d, .d, .d, .d, .d, .d, .d, .d, .d, .d, .d, .v (iA 0), .d, .d, .d, .d, .d, .v (iA 1), .d, .d, .d, .d, .f true (iA 2), .d]
      (by kernel_rfl) (ob := [(iA (([iA 2] : List AV).length : Int) : AV) = (iA 1 : AV),
        0 ≤ (0 : Int),
        (iA ((4294967296 : Int).tmod 2) : AV) = (iA 0 : AV),
        (2 : Int) ≠ 0,
        (iA (IntKind.wrap .i64 (0 + 1)) : AV) = (iA 1 : AV),
        FnF Try.prog 50 true [iA 2] (iA 2),
        (2 : Int) = 2]) (by kernel_rfl)
      ⟨rfl, (by decide), rfl, (by decide), rfl, ex50_30, rfl, trivial⟩

theorem ex81_67   : FnF Try.prog 81 true [iA 4294967296, iA 2] (iA 0) :=
  fn_evF (by kernel_rfl) Try.func81 (by kernel_rfl) 400
      [.d, .d, .d, .v (iA 0), .d, .v (iA 2), .d, .v (iA 0), .d]
      (by kernel_rfl) (ob := [(iA ((4294967296 : Int).tmod 2) : AV) = (iA 0 : AV),
        (2 : Int) ≠ 0,
        (iA (IntKind.wrap .i64 (0 + 2)) : AV) = (iA 2 : AV),
        (iA ((2 : Int).tmod 2) : AV) = (iA 0 : AV),
        (2 : Int) ≠ 0,
        (0 : Int) = 0]) (by kernel_rfl)
      ⟨rfl, (by decide), rfl, rfl, (by decide), rfl, trivial⟩

theorem ex81_68   : FnF Try.prog 81 true [iA (-2147483648), iA 2] (iA 0) :=
  fn_evF (by kernel_rfl) Try.func81 (by kernel_rfl) 400
      [.d, .d, .d, .v (iA 0), .d, .v (iA 2), .d, .v (iA 0), .d]
      (by kernel_rfl) (ob := [(iA (((-2147483648) : Int).tmod 2) : AV) = (iA 0 : AV),
        (2 : Int) ≠ 0,
        (iA (IntKind.wrap .i64 (0 + 2)) : AV) = (iA 2 : AV),
        (iA ((2 : Int).tmod 2) : AV) = (iA 0 : AV),
        (2 : Int) ≠ 0,
        (0 : Int) = 0]) (by kernel_rfl)
      ⟨rfl, (by decide), rfl, rfl, (by decide), rfl, trivial⟩

theorem ex46_69   : FnF Try.prog 46 true [iA (-2147483648), iA 2147483647, iA 2, iA 0] (.agg [iA (-2147483648), iA 2147483646, iA 2, iA 0, iA 0]) :=
  fn_evF (by kernel_rfl) Try.func46 (by kernel_rfl) 400
      [.d, .d, .d, .d, .d, .d, .d, .v (iA 4294967295), .d, .v (iA 1), .v (iA 2147483646), .d, .d, .d, .d, .d, .d, .d, .d, .d, .d, .f true (iA 0), .d, .d, .d]
      (by kernel_rfl) (ob := [(iA (IntKind.wrap .i64 (2147483647 - (-2147483648))) : AV) = (iA 4294967295 : AV),
        (iA ((4294967295 : Int).tmod 2) : AV) = (iA 1 : AV),
        (2 : Int) ≠ 0,
        (iA (IntKind.wrap .i64 (2147483647 - 1)) : AV) = (iA 2147483646 : AV),
        FnF Try.prog 81 true [iA (-2147483648), iA 2] (iA 0),
        ((-2147483648) : Int) = (-2147483648),
        (2147483646 : Int) = 2147483646,
        (2 : Int) = 2,
        (0 : Int) = 0,
        (0 : Int) = 0]) (by kernel_rfl)
      ⟨rfl, rfl, (by decide), rfl, ex81_68, rfl, rfl, rfl, rfl, rfl, trivial⟩

theorem ex51_70   : FnF Try.prog 51 true [iA 2147483648, iA 2, iA (-2147483648), iA 2147483647, iA 0] (.agg [iA (-2147483648), iA 2147483646, iA 2, iA 0, iA 0]) :=
  fn_evF (by kernel_rfl) Try.func51 (by kernel_rfl) 400
      [.d, .d, .d, .d, .v (iA 4294967296), .d, .f true (iA 0), .v (iA (-2147483648)), .d, .d, .d, .f true (.agg [iA (-2147483648), iA 2147483646, iA 2, iA 0, iA 0]), .d]
      (by kernel_rfl) (ob := [(iA (IntKind.wrap .i64 (2147483648 - (-2147483648))) : AV) = (iA 4294967296 : AV),
        FnF Try.prog 81 true [iA 4294967296, iA 2] (iA 0),
        (iA (IntKind.wrap .i64 ((-2147483648) + 0)) : AV) = (iA (-2147483648) : AV),
        FnF Try.prog 46 true [iA (-2147483648), iA 2147483647, iA 2, iA 0] (.agg [iA (-2147483648), iA 2147483646, iA 2, iA 0, iA 0]),
        ((-2147483648) : Int) = (-2147483648),
        (2147483646 : Int) = 2147483646,
        (2 : Int) = 2,
        (0 : Int) = 0,
        (0 : Int) = 0]) (by kernel_rfl)
      ⟨rfl, ex81_67, rfl, ex46_69, rfl, rfl, rfl, rfl, rfl, trivial⟩

theorem ex100_71   : FnF Try.prog 100 true [.agg [iA 2147483647, iA 2147483647, iA 1, iA 0, iA 0, iA 1, iA 3, iA 2, iA 1, iA 0, iA 0], iA 2147483648, iA 2147483650, iA 2] (.agg [iA (-2147483648), iA 2147483646, iA 2, iA 0, iA 0]) :=
  fn_evF (by kernel_rfl) Try.func100 (by kernel_rfl) 400
      [.d, .d, .d, .f true (.bool false), .d, .d, .d, .d, .d, .d, .d, .d, .f true (iA 2), .d, .d, .f true (.agg [iA (-2147483648), iA 2147483646, iA 2, iA 0, iA 0]), .d]
      (by kernel_rfl) (ob := [FnF Try.prog 101 true [iA 2147483648] (.bool false),
        FnF Try.prog 49 true [iA 4294967296, .list [iA 2]] (iA 2),
        ∀ e ∈ ([iA 2] : List AV), idsOf e = [],
        FnF Try.prog 51 true [iA 2147483648, iA 2, iA (-2147483648), iA 2147483647, iA 0] (.agg [iA (-2147483648), iA 2147483646, iA 2, iA 0, iA 0]),
        ((-2147483648) : Int) = (-2147483648),
        (2147483646 : Int) = 2147483646,
        (2 : Int) = 2,
        (0 : Int) = 0,
        (0 : Int) = 0]) (by kernel_rfl)
      ⟨ex101_65, ex49_66, (by simp [idsOf, idsL, encA]), ex51_70, rfl, rfl, rfl, rfl, rfl, trivial⟩

theorem ex74_72   : FnF Try.prog 74 true [.agg [iA 2147483647, iA 2147483647, iA 1, iA 0, iA 0, iA 1, iA 3, iA 2, iA 1, iA 0, iA 0]] (.agg [iA (-2147483648), iA 2147483646, iA 2, iA 0, iA 0]) :=
  fn_evF (by kernel_rfl) Try.func74 (by kernel_rfl) 400
      [.d, .d, .d, .d, .d, .d, .d, .d, .d, .v (iA 2147483648), .d, .d, .d, .d, .d, .d, .v (iA 2147483650), .d, .d, .f true (iA 0), .d, .d, .f true (iA 2), .d, .f true (iA 2), .f true (.agg [iA (-2147483648), iA 2147483646, iA 2, iA 0, iA 0]), .d]
      (by kernel_rfl) (ob := [(iA (IntKind.wrap .i64 (2147483647 + 1)) : AV) = (iA 2147483648 : AV),
        (iA (IntKind.wrap .i64 (2147483647 + 3)) : AV) = (iA 2147483650 : AV),
        FnF Try.prog 44 true [.agg [iA 2147483647, iA 2147483647, iA 1, iA 0, iA 0]] (iA 0),
        FnF Try.prog 44 true [.agg [iA 1, iA 3, iA 2, iA 1, iA 0]] (iA 2),
        FnF Try.prog 49 true [iA 0, .list [iA 2]] (iA 2),
        ∀ e ∈ ([iA 2] : List AV), idsOf e = [],
        FnF Try.prog 100 true [.agg [iA 2147483647, iA 2147483647, iA 1, iA 0, iA 0, iA 1, iA 3, iA 2, iA 1, iA 0, iA 0], iA 2147483648, iA 2147483650, iA 2] (.agg [iA (-2147483648), iA 2147483646, iA 2, iA 0, iA 0]),
        ((-2147483648) : Int) = (-2147483648),
        (2147483646 : Int) = 2147483646,
        (2 : Int) = 2,
        (0 : Int) = 0,
        (0 : Int) = 0]) (by kernel_rfl)
      ⟨rfl, rfl, ex44_62, ex44_63, ex49_64, (by simp [idsOf, idsL, encA]), ex100_71, rfl, rfl, rfl, rfl, rfl, trivial⟩

theorem ex14_73   : FnF Try.prog 14 true [iA 4, .agg [iA 2147483647, iA 2147483647, iA 1, iA 0, iA 0], .agg [iA 1, iA 3, iA 2, iA 1, iA 0]] (.agg [iA (-2147483648), iA 2147483646, iA 2, iA 0, iA 0]) :=
  fn_evF (by kernel_rfl) Try.func14 (by kernel_rfl) 400
      [.d, .d, .d, .d, .d, .d, .d, .d, .d, .v (iA 0), .d, .d, .d, .d, .f true (iA 0), .d, .d, .d, .f true (iA 2), .d, .d, .d, .d, .d, .d, .d, .d, .d, .d, .d, .f true (.agg [.func (.func 74) [] [], .func (.func 75) [] [], .func (.func 76) [] [], .func (.func 77) [] [], .func (.func 78) [] [], .func (.func 79) [] [], .func (.func 80) [] []]), .d, .v (iA 0), .d, .d, .f true (.agg [iA (-2147483648), iA 2147483646, iA 2, iA 0, iA 0]), .d]
      (by kernel_rfl) (ob := [(iA (bits .or .i64 0 0) : AV) = (iA 0 : AV),
        FnF Try.prog 44 true [.agg [iA 2147483647, iA 2147483647, iA 1, iA 0, iA 0]] (iA 0),
        FnF Try.prog 44 true [.agg [iA 1, iA 3, iA 2, iA 1, iA 0]] (iA 2),
        FnF Try.prog 45 true [] (.agg [.func (.func 74) [] [], .func (.func 75) [] [], .func (.func 76) [] [], .func (.func 77) [] [], .func (.func 78) [] [], .func (.func 79) [] [], .func (.func 80) [] []]),
        (iA (IntKind.wrap .i64 (4 - 4)) : AV) = (iA 0 : AV),
        0 ≤ (0 : Int) ∧ (0 : Int) < (7 : Nat),
        FnF Try.prog 74 true [.agg [iA 2147483647, iA 2147483647, iA 1, iA 0, iA 0, iA 1, iA 3, iA 2, iA 1, iA 0, iA 0]] (.agg [iA (-2147483648), iA 2147483646, iA 2, iA 0, iA 0]),
        ((-2147483648) : Int) = (-2147483648),
        (2147483646 : Int) = 2147483646,
        (2 : Int) = 2,
        (0 : Int) = 0,
        (0 : Int) = 0]) (by kernel_rfl)
      ⟨rfl, ex44_62, ex44_63, ex45_28, rfl, (by decide), ex74_72, rfl, rfl, rfl, rfl, rfl, trivial⟩

theorem ex40_74   : FnF Try.prog 40 true [iA (-2147483648), iA 2147483646, iA 2] (.agg [iA (-2147483648), iA 2147483646, iA 2, iA 0, iA 0]) :=
  fn_evF (by kernel_rfl) Try.func40 (by kernel_rfl) 400
      [.d, .d, .d, .d, .d, .d, .d, .d, .d, .d, .v (iA 0), .d, .v (iA 2), .d, .v (iA 0), .d, .d]
      (by kernel_rfl) (ob := [(iA (((-2147483648) : Int).tmod 2) : AV) = (iA 0 : AV),
        (2 : Int) ≠ 0,
        (iA (IntKind.wrap .i64 (0 + 2)) : AV) = (iA 2 : AV),
        (iA ((2 : Int).tmod 2) : AV) = (iA 0 : AV),
        (2 : Int) ≠ 0,
        ((-2147483648) : Int) = (-2147483648),
        (2147483646 : Int) = 2147483646,
        (2 : Int) = 2,
        (0 : Int) = 0,
        (0 : Int) = 0]) (by kernel_rfl)
      ⟨rfl, (by decide), rfl, rfl, (by decide), rfl, rfl, rfl, rfl, rfl, trivial⟩

theorem ex40_75   : FnF Try.prog 40 true [iA 3, iA 3, iA 1] (.agg [iA 3, iA 3, iA 1, iA 0, iA 0]) :=
  fn_evF (by kernel_rfl) Try.func40 (by kernel_rfl) 400
      [.d, .d, .d, .d, .d, .d, .d, .d, .d]
      (by kernel_rfl) (ob := [(3 : Int) = 3,
        (3 : Int) = 3,
        (1 : Int) = 1,
        (0 : Int) = 0,
        (0 : Int) = 0]) (by kernel_rfl)
      ⟨rfl, rfl, rfl, rfl, rfl, trivial⟩

theorem ex39_76   : FnF Try.prog 39 true [iA 3] (.agg [iA 3, iA 3, iA 1, iA 0, iA 0]) :=
  fn_evF (by kernel_rfl) Try.func39 (by kernel_rfl) 400
      [.d, .d, .d, .f true (.agg [iA 3, iA 3, iA 1, iA 0, iA 0]), .d]
      (by kernel_rfl) (ob := [FnF Try.prog 40 true [iA 3, iA 3, iA 1] (.agg [iA 3, iA 3, iA 1, iA 0, iA 0]),
        (3 : Int) = 3,
        (3 : Int) = 3,
        (1 : Int) = 1,
        (0 : Int) = 0,
        (0 : Int) = 0]) (by kernel_rfl)
      ⟨ex40_75, rfl, rfl, rfl, rfl, rfl, trivial⟩

theorem ex15_77   : FnF Try.prog 15 true [.agg [iA 3, iA 3, iA 1, iA 0, iA 0]] (.bool true) :=
  fn_evF (by kernel_rfl) Try.func15 (by kernel_rfl) 400
      [.d, .d, .d, .d, .d, .d, .d, .d, .d, .d, .d, .d, .d, .d, .d, .d, .d, .d, .d, .d, .d, .d, .d, .d, .d, .d, .d, .d, .d, .d, .d, .d, .d, .d, .d, .d, .d, .d, .d, .d, .d, .d, .d, .d, .d, .d, .d, .d]
      (by kernel_rfl) (ob := [(true : Bool) = true]) (by kernel_rfl)
      ⟨rfl, trivial⟩

theorem ex15_78   : FnF Try.prog 15 true [.agg [iA 0, iA 0, iA 0, iA 0, iA 0]] (.bool false) :=
  fn_evF (by kernel_rfl) Try.func15 (by kernel_rfl) 400
      [.d, .d, .d, .d, .d, .d, .d, .d, .d, .d, .d, .d, .d, .d, .d, .d, .d, .d, .d, .d, .d, .d, .d, .d, .d, .d, .d, .d, .d, .d, .d, .d, .d, .d]
      (by kernel_rfl) (ob := [(false : Bool) = false]) (by kernel_rfl)
      ⟨rfl, trivial⟩

theorem ex81_79   : FnF Try.prog 81 true [iA (-2147483648), iA 1] (iA 0) :=
  fn_evF (by kernel_rfl) Try.func81 (by kernel_rfl) 400
      [.d, .d, .d, .v (iA 0), .d, .v (iA 1), .d, .v (iA 0), .d]
      (by kernel_rfl) (ob := [(iA (((-2147483648) : Int).tmod 1) : AV) = (iA 0 : AV),
        (1 : Int) ≠ 0,
        (iA (IntKind.wrap .i64 (0 + 1)) : AV) = (iA 1 : AV),
        (iA ((1 : Int).tmod 1) : AV) = (iA 0 : AV),
        (1 : Int) ≠ 0,
        (0 : Int) = 0]) (by kernel_rfl)
      ⟨rfl, (by decide), rfl, rfl, (by decide), rfl, trivial⟩

theorem ex46_80   : FnF Try.prog 46 true [iA (-2147483648), iA 2147483647, iA 1, iA 5] (.agg [iA (-2147483648), iA 2147483647, iA 1, iA 0, iA 5]) :=
  fn_evF (by kernel_rfl) Try.func46 (by kernel_rfl) 400
      [.d, .d, .d, .d, .d, .d, .d, .v (iA 4294967295), .d, .v (iA 0), .v (iA 2147483647), .d, .d, .d, .d, .d, .d, .d, .d, .d, .d, .f true (iA 0), .d, .d, .d]
      (by kernel_rfl) (ob := [(iA (IntKind.wrap .i64 (2147483647 - (-2147483648))) : AV) = (iA 4294967295 : AV),
        (iA ((4294967295 : Int).tmod 1) : AV) = (iA 0 : AV),
        (1 : Int) ≠ 0,
        (iA (IntKind.wrap .i64 (2147483647 - 0)) : AV) = (iA 2147483647 : AV),
        FnF Try.prog 81 true [iA (-2147483648), iA 1] (iA 0),
        ((-2147483648) : Int) = (-2147483648),
        (2147483647 : Int) = 2147483647,
        (1 : Int) = 1,
        (0 : Int) = 0,
        (5 : Int) = 5]) (by kernel_rfl)
      ⟨rfl, rfl, (by decide), rfl, ex81_79, rfl, rfl, rfl, rfl, rfl, trivial⟩

theorem ex32_81   : FnF Try.prog 32 true [iA 5] (.agg [iA (-2147483648), iA 2147483647, iA 1, iA 0, iA 5]) :=
  fn_evF (by kernel_rfl) Try.func32 (by kernel_rfl) 400
      [.d, .d, .f true (.agg [iA (-2147483648), iA 2147483647, iA 1, iA 0, iA 5]), .d]
      (by kernel_rfl) (ob := [FnF Try.prog 46 true [iA (-2147483648), iA 2147483647, iA 1, iA 5] (.agg [iA (-2147483648), iA 2147483647, iA 1, iA 0, iA 5]),
        ((-2147483648) : Int) = (-2147483648),
        (2147483647 : Int) = 2147483647,
        (1 : Int) = 1,
        (0 : Int) = 0,
        (5 : Int) = 5]) (by kernel_rfl)
      ⟨ex46_80, rfl, rfl, rfl, rfl, rfl, trivial⟩

theorem ex40_82   : FnF Try.prog 40 true [iA 1, iA 7, iA 3] (.agg [iA 1, iA 7, iA 3, iA 1, iA 0]) :=
  fn_evF (by kernel_rfl) Try.func40 (by kernel_rfl) 400
      [.d, .d, .d, .d, .d, .d, .d, .d, .d, .d, .v (iA 1), .d, .v (iA 4), .d, .v (iA 1), .d, .d]
      (by kernel_rfl) (ob := [(iA ((1 : Int).tmod 3) : AV) = (iA 1 : AV),
        (3 : Int) ≠ 0,
        (iA (IntKind.wrap .i64 (1 + 3)) : AV) = (iA 4 : AV),
        (iA ((4 : Int).tmod 3) : AV) = (iA 1 : AV),
        (3 : Int) ≠ 0,
        (1 : Int) = 1,
        (7 : Int) = 7,
        (3 : Int) = 3,
        (1 : Int) = 1,
        (0 : Int) = 0]) (by kernel_rfl)
      ⟨rfl, (by decide), rfl, rfl, (by decide), rfl, rfl, rfl, rfl, rfl, trivial⟩

theorem ex43_83   : FnF Try.prog 43 true [.agg [iA 1, iA 7, iA 3, iA 1, iA 0], iA 4] (.bool true) :=
  fn_evF (by kernel_rfl) Try.func43 (by kernel_rfl) 400
      [.d, .d, .d, .d, .d, .d, .d, .d, .d, .d, .d, .d, .d, .d, .d, .d, .v (iA 3), .d, .d, .v (iA 0), .d, .d, .d]
      (by kernel_rfl) (ob := [(iA (IntKind.wrap .i64 (4 - 1)) : AV) = (iA 3 : AV),
        (iA ((3 : Int).tmod 3) : AV) = (iA 0 : AV),
        (3 : Int) ≠ 0,
        (true : Bool) = true]) (by kernel_rfl)
      ⟨rfl, rfl, (by decide), rfl, trivial⟩

theorem ex13_84   : FnF Try.prog 13 true [.agg [iA 1, iA 7, iA 3, iA 1, iA 0], .agg [iA 4, iA 0]] (.bool true) :=
  fn_evF (by kernel_rfl) Try.func13 (by kernel_rfl) 400
      [.d, .d, .d, .d, .d, .d, .f true (.bool true), .d, .d, .d, .d, .d, .v (iA 0), .d, .d, .d]
      (by kernel_rfl) (ob := [FnF Try.prog 43 true [.agg [iA 1, iA 7, iA 3, iA 1, iA 0], iA 4] (.bool true),
        (iA (bits .andNot .i64 0 0) : AV) = (iA 0 : AV),
        (true : Bool) = true]) (by kernel_rfl)
      ⟨ex43_83, rfl, rfl, trivial⟩

theorem ex13_85   : FnF Try.prog 13 true [.agg [iA 1, iA 7, iA 3, iA 1, iA 0], .agg [iA 4, iA 1]] (.bool false) :=
  fn_evF (by kernel_rfl) Try.func13 (by kernel_rfl) 400
      [.d, .d, .d, .d, .d, .d, .f true (.bool true), .d, .d, .d, .d, .d, .v (iA 1), .d, .d, .d]
      (by kernel_rfl) (ob := [FnF Try.prog 43 true [.agg [iA 1, iA 7, iA 3, iA 1, iA 0], iA 4] (.bool true),
        (iA (bits .andNot .i64 1 0) : AV) = (iA 1 : AV),
        (false : Bool) = false]) (by kernel_rfl)
      ⟨ex43_83, rfl, rfl, trivial⟩

theorem ex_examples   : FnF Try.prog 10 true [] (.bool true) := by
  exact fn_evF (by kernel_rfl) Try.func10 (by kernel_rfl) 400 [.d, .f true (.agg [iA 4, iA 4, iA 1, iA 0, iA 0]), .f true (.agg [iA 10, iA 10, iA 1, iA 0, iA 0]), .f true (.agg [iA 4, iA 10, iA 6, iA 4, iA 0]), .f true (.agg [iA 4, iA 10, iA 6, iA 4, iA 0]), .v (.bool false), .d, .f true (.agg [iA 4, iA 10, iA 6, iA 4, iA 0]), .f true (.agg [iA 7, iA 7, iA 1, iA 0, iA 0]), .f true (.agg [iA 4, iA 10, iA 3, iA 1, iA 0]), .f true (.agg [iA 4, iA 10, iA 3, iA 1, iA 0]), .v (.bool false), .d, .d, .f true (.agg [iA 0, iA 8, iA 4, iA 0, iA 0]), .f true (.agg [iA 1, iA 5, iA 2, iA 1, iA 0]), .f true (.agg [iA 1, iA 13, iA 2, iA 1, iA 0]), .f true (.agg [iA 1, iA 13, iA 2, iA 1, iA 0]), .v (.bool false), .d, .d, .f true (.agg [iA 0, iA 9, iA 1, iA 0, iA 0]), .f true (.agg [iA 4, iA 4, iA 1, iA 0, iA 0]), .f true (.agg [iA 0, iA 3, iA 1, iA 0, iA 0]), .f true (.agg [iA 0, iA 3, iA 1, iA 0, iA 0]), .v (.bool false), .d, .f true (.agg [iA 0, iA 8, iA 4, iA 0, iA 0]), .f true (.agg [iA 4, iA 4, iA 1, iA 0, iA 0]), .f true (.agg [iA 0, iA 0, iA 1, iA 0, iA 0]), .f true (.agg [iA 0, iA 0, iA 1, iA 0, iA 0]), .v (.bool false), .d, .d, .f true (.agg [iA 2147483647, iA 2147483647, iA 1, iA 0, iA 0]), .f true (.agg [iA 1, iA 3, iA 2, iA 1, iA 0]), .f true (.agg [iA (-2147483648), iA 2147483646, iA 2, iA 0, iA 0]), .f true (.agg [iA (-2147483648), iA 2147483646, iA 2, iA 0, iA 0]), .v (.bool false), .d, .d, .f true (.agg [iA 3, iA 3, iA 1, iA 0, iA 0]), .f true (.bool true), .d, .d, .f true (.bool false), .d, .d, .d, .f true (.agg [iA (-2147483648), iA 2147483647, iA 1, iA 0, iA 5]), .d, .v (.bool true), .d, .d, .f true (.agg [iA 1, iA 7, iA 3, iA 1, iA 0]), .d, .f true (.bool true), .d, .d, .f true (.agg [iA 1, iA 7, iA 3, iA 1, iA 0]), .d, .f true (.bool false), .d, .d, .d] (by kernel_rfl) (ob := [FnF Try.prog 39 true [iA 4] (.agg [iA 4, iA 4, iA 1, iA 0, iA 0]), FnF Try.prog 39 true [iA 10] (.agg [iA 10, iA 10, iA 1, iA 0, iA 0]), FnF Try.prog 17 true [.agg [iA 4, iA 4, iA 1, iA 0, iA 0], .agg [iA 10, iA 10, iA 1, iA 0, iA 0]] (.agg [iA 4, iA 10, iA 6, iA 4, iA 0]), FnF Try.prog 40 true [iA 4, iA 10, iA 6] (.agg [iA 4, iA 10, iA 6, iA 4, iA 0]), (.bool (!(((4 : Int) == 4) && (((10 : Int) == 10) && (((6 : Int) == 6) && (((4 : Int) == 4) && (((0 : Int) == 0) && true)))))) : AV) = (.bool false : AV), FnF Try.prog 40 true [iA 4, iA 10, iA 6] (.agg [iA 4, iA 10, iA 6, iA 4, iA 0]), FnF Try.prog 39 true [iA 7] (.agg [iA 7, iA 7, iA 1, iA 0, iA 0]), FnF Try.prog 17 true [.agg [iA 4, iA 10, iA 6, iA 4, iA 0], .agg [iA 7, iA 7, iA 1, iA 0, iA 0]] (.agg [iA 4, iA 10, iA 3, iA 1, iA 0]), FnF Try.prog 40 true [iA 4, iA 10, iA 3] (.agg [iA 4, iA 10, iA 3, iA 1, iA 0]), (.bool (!(((4 : Int) == 4) && (((10 : Int) == 10) && (((3 : Int) == 3) && (((1 : Int) == 1) && (((0 : Int) == 0) && true)))))) : AV) = (.bool false : AV), FnF Try.prog 40 true [iA 0, iA 8, iA 4] (.agg [iA 0, iA 8, iA 4, iA 0, iA 0]), FnF Try.prog 40 true [iA 1, iA 5, iA 2] (.agg [iA 1, iA 5, iA 2, iA 1, iA 0]), FnF Try.prog 14 true [iA 4, .agg [iA 0, iA 8, iA 4, iA 0, iA 0], .agg [iA 1, iA 5, iA 2, iA 1, iA 0]] (.agg [iA 1, iA 13, iA 2, iA 1, iA 0]), FnF Try.prog 40 true [iA 1, iA 13, iA 2] (.agg [iA 1, iA 13, iA 2, iA 1, iA 0]), (.bool (!(((1 : Int) == 1) && (((13 : Int) == 13) && (((2 : Int) == 2) && (((1 : Int) == 1) && (((0 : Int) == 0) && true)))))) : AV) = (.bool false : AV), FnF Try.prog 40 true [iA 0, iA 9, iA 1] (.agg [iA 0, iA 9, iA 1, iA 0, iA 0]), FnF Try.prog 39 true [iA 4] (.agg [iA 4, iA 4, iA 1, iA 0, iA 0]), FnF Try.prog 14 true [iA 8, .agg [iA 0, iA 9, iA 1, iA 0, iA 0], .agg [iA 4, iA 4, iA 1, iA 0, iA 0]] (.agg [iA 0, iA 3, iA 1, iA 0, iA 0]), FnF Try.prog 40 true [iA 0, iA 3, iA 1] (.agg [iA 0, iA 3, iA 1, iA 0, iA 0]), (.bool (!(((0 : Int) == 0) && (((3 : Int) == 3) && (((1 : Int) == 1) && (((0 : Int) == 0) && (((0 : Int) == 0) && true)))))) : AV) = (.bool false : AV), FnF Try.prog 40 true [iA 0, iA 8, iA 4] (.agg [iA 0, iA 8, iA 4, iA 0, iA 0]), FnF Try.prog 39 true [iA 4] (.agg [iA 4, iA 4, iA 1, iA 0, iA 0]), FnF Try.prog 14 true [iA 8, .agg [iA 0, iA 8, iA 4, iA 0, iA 0], .agg [iA 4, iA 4, iA 1, iA 0, iA 0]] (.agg [iA 0, iA 0, iA 1, iA 0, iA 0]), FnF Try.prog 39 true [iA 0] (.agg [iA 0, iA 0, iA 1, iA 0, iA 0]), (.bool (!(((0 : Int) == 0) && (((0 : Int) == 0) && (((1 : Int) == 1) && (((0 : Int) == 0) && (((0 : Int) == 0) && true)))))) : AV) = (.bool false : AV), FnF Try.prog 39 true [iA 2147483647] (.agg [iA 2147483647, iA 2147483647, iA 1, iA 0, iA 0]), FnF Try.prog 40 true [iA 1, iA 3, iA 2] (.agg [iA 1, iA 3, iA 2, iA 1, iA 0]), FnF Try.prog 14 true [iA 4, .agg [iA 2147483647, iA 2147483647, iA 1, iA 0, iA 0], .agg [iA 1, iA 3, iA 2, iA 1, iA 0]] (.agg [iA (-2147483648), iA 2147483646, iA 2, iA 0, iA 0]), FnF Try.prog 40 true [iA (-2147483648), iA 2147483646, iA 2] (.agg [iA (-2147483648), iA 2147483646, iA 2, iA 0, iA 0]), (.bool (!(((-2147483648 : Int) == (-2147483648)) && (((2147483646 : Int) == 2147483646) && (((2 : Int) == 2) && (((0 : Int) == 0) && (((0 : Int) == 0) && true)))))) : AV) = (.bool false : AV), FnF Try.prog 39 true [iA 3] (.agg [iA 3, iA 3, iA 1, iA 0, iA 0]), FnF Try.prog 15 true [.agg [iA 3, iA 3, iA 1, iA 0, iA 0]] (.bool true), FnF Try.prog 15 true [.agg [iA 0, iA 0, iA 0, iA 0, iA 0]] (.bool false), FnF Try.prog 32 true [iA 5] (.agg [iA (-2147483648), iA 2147483647, iA 1, iA 0, iA 5]), (.bool (((-2147483648 : Int) == (-2147483648)) && (((2147483647 : Int) == 2147483647) && (((1 : Int) == 1) && (((0 : Int) == 0) && (((5 : Int) == 5) && true))))) : AV) = (.bool true : AV), FnF Try.prog 40 true [iA 1, iA 7, iA 3] (.agg [iA 1, iA 7, iA 3, iA 1, iA 0]), FnF Try.prog 13 true [.agg [iA 1, iA 7, iA 3, iA 1, iA 0], .agg [iA 4, iA 0]] (.bool true), FnF Try.prog 40 true [iA 1, iA 7, iA 3] (.agg [iA 1, iA 7, iA 3, iA 1, iA 0]), FnF Try.prog 13 true [.agg [iA 1, iA 7, iA 3, iA 1, iA 0], .agg [iA 4, iA 1]] (.bool false), (true : Bool) = true]) (by kernel_rfl) ⟨ex39_2, ex39_4, ex17_12, ex40_13, (bNotF (bAnd (eT (by omega)) (bAnd (eT (by omega)) (bAnd (eT (by omega)) (bAnd (eT (by omega)) (bAnd (eT (by omega)) rfl)))))), ex40_13, ex39_15, ex17_23, ex40_24, (bNotF (bAnd (eT (by omega)) (bAnd (eT (by omega)) (bAnd (eT (by omega)) (bAnd (eT (by omega)) (bAnd (eT (by omega)) rfl)))))), ex40_25, ex40_26, ex14_38, ex40_39, (bNotF (bAnd (eT (by omega)) (bAnd (eT (by omega)) (bAnd (eT (by omega)) (bAnd (eT (by omega)) (bAnd (eT (by omega)) rfl)))))), ex40_40, ex39_2, ex14_49, ex40_50, (bNotF (bAnd (eT (by omega)) (bAnd (eT (by omega)) (bAnd (eT (by omega)) (bAnd (eT (by omega)) (bAnd (eT (by omega)) rfl)))))), ex40_25, ex39_2, ex14_56, ex39_58, (bNotF (bAnd (eT (by omega)) (bAnd (eT (by omega)) (bAnd (eT (by omega)) (bAnd (eT (by omega)) (bAnd (eT (by omega)) rfl)))))), ex39_60, ex40_61, ex14_73, ex40_74, (bNotF (bAnd (eT (by omega)) (bAnd (eT (by omega)) (bAnd (eT (by omega)) (bAnd (eT (by omega)) (bAnd (eT (by omega)) rfl)))))), ex39_76, ex15_77, ex15_78, ex32_81, (bAnd (eT (by omega)) (bAnd (eT (by omega)) (bAnd (eT (by omega)) (bAnd (eT (by omega)) (bAnd (eT (by omega)) rfl))))), ex40_82, ex13_84, ex40_82, ex13_85, rfl, trivial⟩

end Go.Proofs.Ytlokjiniigfaiaa
