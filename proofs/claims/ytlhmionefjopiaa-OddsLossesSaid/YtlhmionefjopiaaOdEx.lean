/- The fixed calls of chapter 37 -/
import Derived.Test.YtlhmionefjopiaaEvU
import Derived.Test.YtlhmionefjopiaaProg
set_option linter.unusedVariables false
set_option linter.unusedSimpArgs false
namespace Go.Proofs.Ytlhmionefjopiaa
open Go.RowKit
set_option maxRecDepth 100000
theorem ex44_1   : FnF Try.prog 44 true [.agg [.int .i64 4, .int .i64 3, .int .i64 1]] (.int .i64 4) :=
  fn_evF (by kernel_rfl) Try.func44 (by kernel_rfl) 400
      [.d, .d, .d, .d, .d]
      (by kernel_rfl) (ob := [(4 : Int) = 4]) (by kernel_rfl)
      ⟨rfl, trivial⟩

theorem ex44_2   : FnF Try.prog 44 true [.agg [.int .i64 4, .int .i64 0, .int .i64 1]] (.int .i64 4) :=
  fn_evF (by kernel_rfl) Try.func44 (by kernel_rfl) 400
      [.d, .d, .d, .d, .d]
      (by kernel_rfl) (ob := [(4 : Int) = 4]) (by kernel_rfl)
      ⟨rfl, trivial⟩

theorem ex42_3   : FnF Try.prog 42 true [.agg [.int .i64 4, .int .i64 3, .int .i64 1], .agg [.int .i64 4, .int .i64 0, .int .i64 1]] (.agg [.int .i64 4, .int .i64 3, .int .i64 2]) :=
  fn_evF (by kernel_rfl) Try.func42 (by kernel_rfl) 400
      [.d, .d, .d, .d, .d, .d, .d, .d, .d, .v (.int .i64 3), .d, .d, .d, .d, .v (.int .i64 2), .d, .d]
      (by kernel_rfl) (ob := [(.int .i64 (IntKind.wrap .i64 (3 + 0)) : AV) = (.int .i64 3 : AV),
        (.int .i64 (IntKind.wrap .i64 (1 + 1)) : AV) = (.int .i64 2 : AV),
        (4 : Int) = 4,
        (3 : Int) = 3,
        (2 : Int) = 2]) (by kernel_rfl)
      ⟨rfl, rfl, rfl, rfl, rfl, trivial⟩

theorem ex43_4   : FnM Try.prog 43 [] [.list [.agg [.int .i64 4, .int .i64 3, .int .i64 1]], .list [.agg [.int .i64 4, .int .i64 0, .int .i64 1]], .func (.func 44) [] [], .func (.func 42) [] []] (.slice 0 0 1 0) [.row 3 [.agg [.int .i64 4, .int .i64 3, .int .i64 2]] 0] :=
  fn_ev (by kernel_rfl) Try.func43 (by kernel_rfl) 400
      [.d, .d, .d, .v (.int .i64 1), .d, .v (.int .i64 1), .v (.int .i64 2), .d, .d, .d, .v (.int .i64 1), .d, .d, .d, .v (.int .i64 1), .d, .d, .d, .d, .d, .d, .f true (.int .i64 4), .d, .d, .d, .d, .f true (.int .i64 4), .d, .d, .d, .d, .d, .d, .v (.int .i64 1), .d, .d, .d, .d, .d, .d, .f true (.int .i64 4), .d, .d, .d, .d, .f true (.int .i64 4), .d, .d, .d, .d, .d, .d, .d, .d, .d, .d, .d, .d, .f true (.agg [.int .i64 4, .int .i64 3, .int .i64 2]), .d, .d, .d, .d, .d, .d, .d, .d, .d, .d, .v (.int .i64 0), .d, .v (.int .i64 0), .v (.int .i64 0), .d, .d, .d, .d]
      [1] rfl (r := .slice 0 0 1 0) (R := [.row 3 [.agg [.int .i64 4, .int .i64 3, .int .i64 2]] 0]) (ob := [(.int .i64 (([.agg [.int .i64 4, .int .i64 3, .int .i64 1]] : List AV).length : Int) : AV) = (.int .i64 1 : AV),
        (.int .i64 (([.agg [.int .i64 4, .int .i64 0, .int .i64 1]] : List AV).length : Int) : AV) = (.int .i64 1 : AV),
        (.int .i64 (IntKind.wrap .i64 (1 + 1)) : AV) = (.int .i64 2 : AV),
        (.int .i64 (([.agg [.int .i64 4, .int .i64 0, .int .i64 1]] : List AV).length : Int) : AV) = (.int .i64 1 : AV),
        (.int .i64 (([.agg [.int .i64 4, .int .i64 3, .int .i64 1]] : List AV).length : Int) : AV) = (.int .i64 1 : AV),
        0 ≤ (0 : Int),
        FnF Try.prog 44 true [.agg [.int .i64 4, .int .i64 3, .int .i64 1]] (.int .i64 4),
        0 ≤ (0 : Int),
        FnF Try.prog 44 true [.agg [.int .i64 4, .int .i64 0, .int .i64 1]] (.int .i64 4),
        (.int .i64 (([.agg [.int .i64 4, .int .i64 3, .int .i64 1]] : List AV).length : Int) : AV) = (.int .i64 1 : AV),
        0 ≤ (0 : Int),
        FnF Try.prog 44 true [.agg [.int .i64 4, .int .i64 0, .int .i64 1]] (.int .i64 4),
        0 ≤ (0 : Int),
        FnF Try.prog 44 true [.agg [.int .i64 4, .int .i64 3, .int .i64 1]] (.int .i64 4),
        0 ≤ (0 : Int),
        0 ≤ (0 : Int),
        FnF Try.prog 42 true [.agg [.int .i64 4, .int .i64 3, .int .i64 1], .agg [.int .i64 4, .int .i64 0, .int .i64 1]] (.agg [.int .i64 4, .int .i64 3, .int .i64 2]),
        (2 * ([.agg [.int .i64 4, .int .i64 3, .int .i64 2]] : List AV).length + 1024) * 24 ≤ 2 ^ 48,
        ∀ y ∈ ([.agg [.int .i64 4, .int .i64 3, .int .i64 2]] : List AV), (cellsOf y).length = 3 ∧ ∀ c ∈ cellsOf y, isCell c = true,
        0 ≤ (1 : Int) ∧ (1 : Int) ≤ ((([.agg [.int .i64 4, .int .i64 3, .int .i64 1]] : List AV)).length : Int) ∧ ((([.agg [.int .i64 4, .int .i64 3, .int .i64 1]] : List AV)).length : Int) ≤ ((([.agg [.int .i64 4, .int .i64 3, .int .i64 1]] : List AV) : List AV).length : Int),
        ∀ x ∈ (([.agg [.int .i64 4, .int .i64 3, .int .i64 1]] : List AV) : List AV), (cellsOf x).length = 3,
        0 ≤ (1 : Int) ∧ (1 : Int) ≤ ((([.agg [.int .i64 4, .int .i64 0, .int .i64 1]] : List AV)).length : Int) ∧ ((([.agg [.int .i64 4, .int .i64 0, .int .i64 1]] : List AV)).length : Int) ≤ ((([.agg [.int .i64 4, .int .i64 0, .int .i64 1]] : List AV) : List AV).length : Int),
        ∀ x ∈ (([.agg [.int .i64 4, .int .i64 0, .int .i64 1]] : List AV) : List AV), (cellsOf x).length = 3,
        (.int .i64 (([] : List AV).length : Int) : AV) = (.int .i64 0 : AV),
        (.int .i64 (([] : List AV).length : Int) : AV) = (.int .i64 0 : AV),
        (.int .i64 (IntKind.wrap .i64 (0 + 0)) : AV) = (.int .i64 0 : AV),
        ∀ e ∈ ([.agg [.int .i64 4, .int .i64 3, .int .i64 2]] : List AV), idsOf e = []]) (by kernel_rfl)
      ⟨rfl, rfl, rfl, rfl, rfl, (by decide), ex44_1, (by decide), ex44_2, rfl, (by decide), ex44_2, (by decide), ex44_1, (by decide), (by decide), ex42_3, (by simp), (by simp [cellsOf, isCell]), (by first | (simp; done) | omega | (simp; omega)), (by simp [cellsOf]), (by first | (simp; done) | omega | (simp; omega)), (by simp [cellsOf]), rfl, rfl, rfl, (by simp [idsOf, idsL]), trivial⟩

theorem ex11_5   : FnF Try.prog 11 true [.list [.agg [.int .i64 4, .int .i64 3, .int .i64 2]]] (.int .i64 0) :=
  fn_evF (by kernel_rfl) Try.func11 (by kernel_rfl) 400
      [.d, .d, .v (.int .i64 1), .d, .d, .d, .d, .d, .d, .d, .d, .d, .d, .d, .d, .d, .d, .d, .d, .d, .d, .d, .d, .d, .d, .d, .d, .d, .d, .d, .d, .d, .d, .d, .d, .d, .d, .d, .d, .d, .d, .d, .d, .d, .d, .d, .d, .d, .d, .d, .d, .d, .v (.int .i64 1), .d, .d, .d, .d]
      (by kernel_rfl) (ob := [(.int .i64 (([.agg [.int .i64 4, .int .i64 3, .int .i64 2]] : List AV).length : Int) : AV) = (.int .i64 1 : AV),
        0 ≤ (0 : Int),
        (.int .i64 (IntKind.wrap .i64 (0 + 1)) : AV) = (.int .i64 1 : AV),
        (0 : Int) = 0]) (by kernel_rfl)
      ⟨rfl, (by decide), rfl, rfl, trivial⟩

theorem ex28_6   : FnM Try.prog 28 [] [.list [.agg [.int .i64 4, .int .i64 3, .int .i64 1]], .list [.agg [.int .i64 4, .int .i64 0, .int .i64 1]]] (.tuple [.slice 0 0 1 0, .int .i64 0]) [.row 3 [.agg [.int .i64 4, .int .i64 3, .int .i64 2]] 0] :=
  fn_ev (by kernel_rfl) Try.func28 (by kernel_rfl) 400
      [.d, .d, .d, .d, .d, .d, .c (.slice 0 0 1 0) [.row 3 [.agg [.int .i64 4, .int .i64 3, .int .i64 2]] 0], .d, .d, .f true (.int .i64 0), .d, .d, .d, .d, .d]
      [0] rfl (r := .tuple [.slice 0 0 1 0, .int .i64 0]) (R := [.row 3 [.agg [.int .i64 4, .int .i64 3, .int .i64 2]] 0]) (ob := [FnM Try.prog 43 [] [.list [.agg [.int .i64 4, .int .i64 3, .int .i64 1]], .list [.agg [.int .i64 4, .int .i64 0, .int .i64 1]], .func (.func 44) [] [], .func (.func 42) [] []] (.slice 0 0 1 0) [.row 3 [.agg [.int .i64 4, .int .i64 3, .int .i64 2]] 0],
        ∀ e ∈ ([.agg [.int .i64 4, .int .i64 3, .int .i64 2]] : List AV), idsOf e = [],
        FnF Try.prog 11 true [.list [.agg [.int .i64 4, .int .i64 3, .int .i64 2]]] (.int .i64 0),
        ∀ e ∈ ([.agg [.int .i64 4, .int .i64 3, .int .i64 2]] : List AV), idsOf e = [],
        ∀ e ∈ ([.agg [.int .i64 4, .int .i64 3, .int .i64 2]] : List AV), idsOf e = []]) (by kernel_rfl)
      ⟨ex43_4, (by simp [idsOf, idsL]), ex11_5, (by simp [idsOf, idsL]), (by simp [idsOf, idsL]), trivial⟩

theorem ex32_7   : FnM Try.prog 32 [] [.list [.agg [.int .i64 4, .int .i64 3, .int .i64 1]], .int .i64 4, .bool false] (.tuple [.slice 0 0 1 0, .int .i64 0]) [.row 3 [.agg [.int .i64 4, .int .i64 3, .int .i64 2]] 0] :=
  fn_ev (by kernel_rfl) Try.func32 (by kernel_rfl) 400
      [.d, .d, .d, .d, .d, .d, .d, .d, .d, .d, .d, .d, .d, .d, .d, .d, .d, .v (.int .i64 1), .d, .d, .d, .d, .d, .c (.tuple [.slice 0 0 1 0, .int .i64 0]) [.row 3 [.agg [.int .i64 4, .int .i64 3, .int .i64 2]] 0], .d, .d, .d, .d]
      [2] rfl (r := .tuple [.slice 0 0 1 0, .int .i64 0]) (R := [.row 3 [.agg [.int .i64 4, .int .i64 3, .int .i64 2]] 0]) (ob := [(.int .i64 (IntKind.wrap .i64 (0 + 1)) : AV) = (.int .i64 1 : AV),
        FnM Try.prog 28 [] [.list [.agg [.int .i64 4, .int .i64 3, .int .i64 1]], .list [.agg [.int .i64 4, .int .i64 0, .int .i64 1]]] (.tuple [.slice 0 0 1 0, .int .i64 0]) [.row 3 [.agg [.int .i64 4, .int .i64 3, .int .i64 2]] 0],
        plainV (.tuple [.slice 0 0 1 0, .int .i64 0]) = true,
        ∀ x ∈ ([.row 3 [.agg [.int .i64 4, .int .i64 3, .int .i64 2]] 0] : List Blk), PlainB x,
        ∀ e ∈ ([.agg [.int .i64 4, .int .i64 3, .int .i64 2]] : List AV), idsOf e = [],
        ∀ e ∈ ([.agg [.int .i64 4, .int .i64 0, .int .i64 1]] : List AV), idsOf e = [],
        ∀ e ∈ ([.agg [.int .i64 4, .int .i64 3, .int .i64 2]] : List AV), idsOf e = []]) (by kernel_rfl)
      ⟨rfl, ex28_6, rfl, (by simp [PlainB, plainV, plainL]), (by simp [idsOf, idsL]), (by simp [idsOf, idsL]), (by simp [idsOf, idsL]), trivial⟩

theorem ex20_8   : FnM Try.prog 20 [] [.list [.agg [.int .i64 4, .int .i64 3, .int .i64 1]], .int .i64 4, .bool false] (.agg [.slice 0 0 1 0, .int .i64 0]) [.row 3 [.agg [.int .i64 4, .int .i64 3, .int .i64 2]] 0] :=
  fn_ev (by kernel_rfl) Try.func20 (by kernel_rfl) 400
      [.d, .d, .d, .d, .c (.tuple [.slice 0 0 1 0, .int .i64 0]) [.row 3 [.agg [.int .i64 4, .int .i64 3, .int .i64 2]] 0], .d, .d, .d, .d, .d, .d, .d, .d, .d]
      [1] rfl (r := .agg [.slice 0 0 1 0, .int .i64 0]) (R := [.row 3 [.agg [.int .i64 4, .int .i64 3, .int .i64 2]] 0]) (ob := [FnM Try.prog 32 [] [.list [.agg [.int .i64 4, .int .i64 3, .int .i64 1]], .int .i64 4, .bool false] (.tuple [.slice 0 0 1 0, .int .i64 0]) [.row 3 [.agg [.int .i64 4, .int .i64 3, .int .i64 2]] 0],
        ∀ e ∈ ([.agg [.int .i64 4, .int .i64 3, .int .i64 2]] : List AV), idsOf e = [],
        ∀ e ∈ ([.agg [.int .i64 4, .int .i64 3, .int .i64 2]] : List AV), idsOf e = []]) (by kernel_rfl)
      ⟨ex32_7, (by simp [idsOf, idsL]), (by simp [idsOf, idsL]), trivial⟩

theorem ex58_9   : FnF Try.prog 58 true [.list [.agg [.int .i64 4, .int .i64 3, .int .i64 1]], .agg [.int .i64 4, .int .i64 3, .int .i64 1], .int .i64 4] (.int .i64 0) :=
  fn_evF (by kernel_rfl) Try.func58 (by kernel_rfl) 400
      [.d, .d, .d, .d, .d, .v (.int .i64 0), .d]
      (by kernel_rfl) (ob := [(.int .i64 (IntKind.wrap .i64 (4 - 4)) : AV) = (.int .i64 0 : AV),
        (0 : Int) = 0]) (by kernel_rfl)
      ⟨rfl, rfl, trivial⟩

theorem ex57_10   : FnF Try.prog 57 true [.list [.agg [.int .i64 4, .int .i64 3, .int .i64 1]], .int .i64 4, .func (.func 58) [.list [.agg [.int .i64 4, .int .i64 3, .int .i64 1]]] []] (.tuple [.int .i64 0, .bool true]) :=
  fn_evF (by kernel_rfl) Try.func57 (by kernel_rfl) 400
      [.d, .d, .d, .v (.int .i64 1), .d, .d, .d, .d, .d, .d, .d, .d, .d, .d, .v (.int .i64 1), .v (.int .u64 1), .v (.int .u64 0), .v (.int .i64 0), .d, .d, .d, .d, .d, .d, .d, .f true (.int .i64 0), .d, .d, .d, .d, .d, .d, .d, .d, .d, .d, .d, .d, .d, .d, .d, .d, .d, .d, .d, .f true (.int .i64 0), .d, .d, .d, .d]
      (by kernel_rfl) (ob := [(.int .i64 (([.agg [.int .i64 4, .int .i64 3, .int .i64 1]] : List AV).length : Int) : AV) = (.int .i64 1 : AV),
        (.int .i64 (IntKind.wrap .i64 (0 + 1)) : AV) = (.int .i64 1 : AV),
        (.int .u64 (IntKind.wrap .u64 (1)) : AV) = (.int .u64 1 : AV),
        (.int .u64 (Int.fdiv 1 (2 ^ (min (1 : Int).toNat (IntKind.bits .u64)))) : AV) = (.int .u64 0 : AV),
        0 ≤ (1 : Int),
        (.int .i64 (IntKind.wrap .i64 (0)) : AV) = (.int .i64 0 : AV),
        0 ≤ (0 : Int),
        FnF Try.prog 58 true [.list [.agg [.int .i64 4, .int .i64 3, .int .i64 1]], .agg [.int .i64 4, .int .i64 3, .int .i64 1], .int .i64 4] (.int .i64 0),
        0 ≤ (0 : Int),
        FnF Try.prog 58 true [.list [.agg [.int .i64 4, .int .i64 3, .int .i64 1]], .agg [.int .i64 4, .int .i64 3, .int .i64 1], .int .i64 4] (.int .i64 0),
        (0 : Int) = 0,
        (true : Bool) = true]) (by kernel_rfl)
      ⟨rfl, rfl, rfl, rfl, (by decide), rfl, (by decide), ex58_9, (by decide), ex58_9, rfl, rfl, trivial⟩

theorem ex45_11   : FnF Try.prog 45 true [.list [.agg [.int .i64 4, .int .i64 3, .int .i64 1]], .int .i64 4] (.agg [.int .i64 4, .int .i64 3, .int .i64 1]) :=
  fn_evF (by kernel_rfl) Try.func45 (by kernel_rfl) 400
      [.d, .d, .d, .d, .d, .f true (.tuple [.int .i64 0, .bool true]), .d, .d, .d, .d, .d, .d, .d, .d, .d, .d, .d, .d, .d]
      (by kernel_rfl) (ob := [FnF Try.prog 57 true [.list [.agg [.int .i64 4, .int .i64 3, .int .i64 1]], .int .i64 4, .func (.func 58) [.list [.agg [.int .i64 4, .int .i64 3, .int .i64 1]]] []] (.tuple [.int .i64 0, .bool true]),
        0 ≤ (0 : Int),
        (4 : Int) = 4,
        (3 : Int) = 3,
        (1 : Int) = 1]) (by kernel_rfl)
      ⟨ex57_10, (by decide), rfl, rfl, rfl, trivial⟩

theorem ex34_12   : FnF Try.prog 34 true [.int .i64 36] (.int .u64 36) :=
  fn_evF (by kernel_rfl) Try.func34 (by kernel_rfl) 400
      [.d, .d, .d, .d, .d, .v (.int .u64 36), .d]
      (by kernel_rfl) (ob := [(.int .u64 (IntKind.wrap .u64 (36)) : AV) = (.int .u64 36 : AV),
        (36 : Int) = 36]) (by kernel_rfl)
      ⟨rfl, rfl, trivial⟩

theorem ex34_13   : FnF Try.prog 34 true [.int .i64 6] (.int .u64 6) :=
  fn_evF (by kernel_rfl) Try.func34 (by kernel_rfl) 400
      [.d, .d, .d, .d, .d, .v (.int .u64 6), .d]
      (by kernel_rfl) (ob := [(.int .u64 (IntKind.wrap .u64 (6)) : AV) = (.int .u64 6 : AV),
        (6 : Int) = 6]) (by kernel_rfl)
      ⟨rfl, rfl, trivial⟩

theorem ex33_14   : FnF Try.prog 33 true [.list [.int .u64 36, .int .u64 6]] (.int .u64 6) :=
  fn_evF (by kernel_rfl) Try.func33 (by kernel_rfl) 400
      [.d, .d, .d, .d, .d, .d, .d, .v (.int .i64 1), .d, .d, .d, .d, .d, .d, .d, .d, .d, .d, .d, .d, .v (.int .u64 0), .d, .d, .d, .d, .d, .v (.int .i64 1), .d, .d, .d, .d, .d]
      (by kernel_rfl) (ob := [0 ≤ (0 : Int),
        0 ≤ (1 : Int) ∧ (1 : Int) ≤ ((([.int .u64 36, .int .u64 6] : List AV)).length : Int) ∧ ((([.int .u64 36, .int .u64 6] : List AV)).length : Int) ≤ ((([.int .u64 36, .int .u64 6] : List AV) : List AV).length : Int),
        ∀ x ∈ (([.int .u64 36, .int .u64 6] : List AV) : List AV), (cellsOf x).length = 1,
        (.int .i64 (([.int .u64 6] : List AV).length : Int) : AV) = (.int .i64 1 : AV),
        0 ≤ (0 : Int),
        (.int .u64 ((36 : Int).tmod 6) : AV) = (.int .u64 0 : AV),
        (6 : Int) ≠ 0,
        (.int .i64 (IntKind.wrap .i64 (0 + 1)) : AV) = (.int .i64 1 : AV),
        (6 : Int) = 6]) (by kernel_rfl)
      ⟨(by decide), (by first | (simp; done) | omega | (simp; omega)), (by simp [cellsOf]), rfl, (by decide), rfl, (by decide), rfl, rfl, trivial⟩

theorem ex55_15   : FnF Try.prog 55 true [.agg [.bool false, .int .u64 0, .int .u64 6]] (.tuple [.int .i64 6, .bool true]) :=
  fn_evF (by kernel_rfl) Try.func55 (by kernel_rfl) 400
      [.d, .d, .d, .d, .d, .d, .d, .d, .d, .d, .d, .d, .d, .d, .d, .d, .d, .v (.int .i64 6), .d, .d]
      (by kernel_rfl) (ob := [(.int .i64 (IntKind.wrap .i64 (6)) : AV) = (.int .i64 6 : AV),
        (6 : Int) = 6,
        (true : Bool) = true]) (by kernel_rfl)
      ⟨rfl, rfl, rfl, trivial⟩

theorem ex55_16   : FnF Try.prog 55 true [.agg [.bool false, .int .u64 0, .int .u64 1]] (.tuple [.int .i64 1, .bool true]) :=
  fn_evF (by kernel_rfl) Try.func55 (by kernel_rfl) 400
      [.d, .d, .d, .d, .d, .d, .d, .d, .d, .d, .d, .d, .d, .d, .d, .d, .d, .v (.int .i64 1), .d, .d]
      (by kernel_rfl) (ob := [(.int .i64 (IntKind.wrap .i64 (1)) : AV) = (.int .i64 1 : AV),
        (1 : Int) = 1,
        (true : Bool) = true]) (by kernel_rfl)
      ⟨rfl, rfl, rfl, trivial⟩

theorem ex38_17   : FnF Try.prog 38 true [.agg [.bool false, .int .u64 0, .int .u64 6], .agg [.bool false, .int .u64 0, .int .u64 1]] (.tuple [.agg [.int .i64 6, .int .i64 1], .int .i64 0]) :=
  fn_evF (by kernel_rfl) Try.func38 (by kernel_rfl) 400
      [.d, .d, .d, .d, .d, .f true (.tuple [.int .i64 6, .bool true]), .d, .d, .d, .d, .d, .d, .f true (.tuple [.int .i64 1, .bool true]), .d, .d, .d, .d, .d, .d, .d, .d, .d, .d, .d, .d, .d, .d, .d, .d, .d]
      (by kernel_rfl) (ob := [FnF Try.prog 55 true [.agg [.bool false, .int .u64 0, .int .u64 6]] (.tuple [.int .i64 6, .bool true]),
        FnF Try.prog 55 true [.agg [.bool false, .int .u64 0, .int .u64 1]] (.tuple [.int .i64 1, .bool true]),
        (6 : Int) = 6,
        (1 : Int) = 1,
        (0 : Int) = 0]) (by kernel_rfl)
      ⟨ex55_15, ex55_16, rfl, rfl, rfl, trivial⟩

theorem ex46_18   : FnF Try.prog 46 true [.int .i64 36, .int .i64 6] (.tuple [.agg [.int .i64 6, .int .i64 1], .int .i64 0]) :=
  fn_evF (by kernel_rfl) Try.func46 (by kernel_rfl) 400
      [.d, .d, .d, .d, .d, .d, .d, .d, .d, .f true (.int .u64 36), .d, .f true (.int .u64 6), .d, .f true (.int .u64 6), .d, .d, .d, .d, .d, .v (.bool false), .d, .f true (.int .u64 36), .d, .v (.int .u64 6), .d, .d, .f true (.int .u64 6), .d, .v (.int .u64 1), .d, .f true (.tuple [.agg [.int .i64 6, .int .i64 1], .int .i64 0]), .d, .d, .d, .d]
      (by kernel_rfl) (ob := [FnF Try.prog 34 true [.int .i64 36] (.int .u64 36),
        FnF Try.prog 34 true [.int .i64 6] (.int .u64 6),
        FnF Try.prog 33 true [.list [.int .u64 36, .int .u64 6]] (.int .u64 6),
        ∀ e ∈ ([.int .u64 36, .int .u64 6] : List AV), idsOf e = [],
        (.bool (!(false == false)) : AV) = (.bool false : AV),
        FnF Try.prog 34 true [.int .i64 36] (.int .u64 36),
        (.int .u64 (IntKind.wrap .u64 ((36 : Int).tdiv 6)) : AV) = (.int .u64 6 : AV),
        (6 : Int) ≠ 0,
        FnF Try.prog 34 true [.int .i64 6] (.int .u64 6),
        (.int .u64 (IntKind.wrap .u64 ((6 : Int).tdiv 6)) : AV) = (.int .u64 1 : AV),
        (6 : Int) ≠ 0,
        FnF Try.prog 38 true [.agg [.bool false, .int .u64 0, .int .u64 6], .agg [.bool false, .int .u64 0, .int .u64 1]] (.tuple [.agg [.int .i64 6, .int .i64 1], .int .i64 0]),
        (6 : Int) = 6,
        (1 : Int) = 1,
        (0 : Int) = 0]) (by kernel_rfl)
      ⟨ex34_12, ex34_13, ex33_14, (by simp [idsOf, idsL]), bneB rfl rfl, ex34_12, rfl, (by decide), ex34_13, rfl, (by decide), ex38_17, rfl, rfl, rfl, trivial⟩

theorem ex30_19   : FnF Try.prog 30 true [.list [.agg [.int .i64 4, .int .i64 3, .int .i64 1]], .int .i64 4, .int .i64 9] (.tuple [.agg [.int .i64 6, .int .i64 1], .int .i64 0]) :=
  fn_evF (by kernel_rfl) Try.func30 (by kernel_rfl) 400
      [.d, .d, .d, .d, .d, .d, .d, .d, .d, .d, .d, .f true (.agg [.int .i64 4, .int .i64 3, .int .i64 1]), .d, .d, .d, .d, .v (.int .i64 4), .d, .v (.int .i64 36), .d, .d, .d, .d, .v (.int .i64 4), .v (.int .i64 6), .f true (.tuple [.agg [.int .i64 6, .int .i64 1], .int .i64 0]), .d, .d, .d, .d]
      (by kernel_rfl) (ob := [FnF Try.prog 45 true [.list [.agg [.int .i64 4, .int .i64 3, .int .i64 1]], .int .i64 4] (.agg [.int .i64 4, .int .i64 3, .int .i64 1]),
        (.int .i64 (IntKind.wrap .i64 (3 + 1)) : AV) = (.int .i64 4 : AV),
        (.int .i64 (IntKind.wrap .i64 (4 * 9)) : AV) = (.int .i64 36 : AV),
        (.int .i64 (IntKind.wrap .i64 (3 + 1)) : AV) = (.int .i64 4 : AV),
        (.int .i64 (IntKind.wrap .i64 (4 + 2)) : AV) = (.int .i64 6 : AV),
        FnF Try.prog 46 true [.int .i64 36, .int .i64 6] (.tuple [.agg [.int .i64 6, .int .i64 1], .int .i64 0]),
        (6 : Int) = 6,
        (1 : Int) = 1,
        (0 : Int) = 0]) (by kernel_rfl)
      ⟨ex45_11, rfl, rfl, rfl, rfl, ex46_18, rfl, rfl, rfl, trivial⟩

theorem ex18_20   : FnF Try.prog 18 true [.list [.agg [.int .i64 4, .int .i64 3, .int .i64 1]], .int .i64 4, .int .i64 9] (.agg [.int .i64 6, .int .i64 1, .int .i64 0]) :=
  fn_evF (by kernel_rfl) Try.func18 (by kernel_rfl) 400
      [.d, .d, .d, .d, .f true (.tuple [.agg [.int .i64 6, .int .i64 1], .int .i64 0]), .d, .d, .d, .d, .d, .d, .d, .d, .d, .d]
      (by kernel_rfl) (ob := [FnF Try.prog 30 true [.list [.agg [.int .i64 4, .int .i64 3, .int .i64 1]], .int .i64 4, .int .i64 9] (.tuple [.agg [.int .i64 6, .int .i64 1], .int .i64 0]),
        (6 : Int) = 6,
        (1 : Int) = 1,
        (0 : Int) = 0]) (by kernel_rfl)
      ⟨ex30_19, rfl, rfl, rfl, trivial⟩

theorem ex11_21   : FnF Try.prog 11 true [.list [.agg [.int .i64 4, .int .i64 3, .int .i64 1]]] (.int .i64 0) :=
  fn_evF (by kernel_rfl) Try.func11 (by kernel_rfl) 400
      [.d, .d, .v (.int .i64 1), .d, .d, .d, .d, .d, .d, .d, .d, .d, .d, .d, .d, .d, .d, .d, .d, .d, .d, .d, .d, .d, .d, .d, .d, .d, .d, .d, .d, .d, .d, .d, .d, .d, .d, .d, .d, .d, .d, .d, .d, .d, .d, .d, .d, .d, .d, .d, .d, .d, .v (.int .i64 1), .d, .d, .d, .d]
      (by kernel_rfl) (ob := [(.int .i64 (([.agg [.int .i64 4, .int .i64 3, .int .i64 1]] : List AV).length : Int) : AV) = (.int .i64 1 : AV),
        0 ≤ (0 : Int),
        (.int .i64 (IntKind.wrap .i64 (0 + 1)) : AV) = (.int .i64 1 : AV),
        (0 : Int) = 0]) (by kernel_rfl)
      ⟨rfl, (by decide), rfl, rfl, trivial⟩

theorem ex11_22   : FnF Try.prog 11 true [.list [.agg [.int .i64 15, .int .i64 0, .int .i64 0]]] (.int .i64 1) :=
  fn_evF (by kernel_rfl) Try.func11 (by kernel_rfl) 400
      [.d, .d, .v (.int .i64 1), .d, .d, .d, .d, .d, .d, .d, .d, .d, .d, .d, .d, .d, .d, .d, .d, .d, .d, .d, .d, .d, .d, .d, .d, .d, .d, .d, .d, .d, .d, .d, .d, .d, .d, .d, .d, .d, .d, .d, .d, .d, .d, .d, .d, .d, .d, .d, .d, .d, .d]
      (by kernel_rfl) (ob := [(.int .i64 (([.agg [.int .i64 15, .int .i64 0, .int .i64 0]] : List AV).length : Int) : AV) = (.int .i64 1 : AV),
        0 ≤ (0 : Int),
        (1 : Int) = 1]) (by kernel_rfl)
      ⟨rfl, (by decide), rfl, trivial⟩

theorem ex34_23   : FnF Try.prog 34 true [.int .i64 4] (.int .u64 4) :=
  fn_evF (by kernel_rfl) Try.func34 (by kernel_rfl) 400
      [.d, .d, .d, .d, .d, .v (.int .u64 4), .d]
      (by kernel_rfl) (ob := [(.int .u64 (IntKind.wrap .u64 (4)) : AV) = (.int .u64 4 : AV),
        (4 : Int) = 4]) (by kernel_rfl)
      ⟨rfl, rfl, trivial⟩

theorem ex33_24   : FnF Try.prog 33 true [.list [.int .u64 4, .int .u64 6]] (.int .u64 2) :=
  fn_evF (by kernel_rfl) Try.func33 (by kernel_rfl) 400
      [.d, .d, .d, .d, .d, .d, .d, .v (.int .i64 1), .d, .d, .d, .d, .d, .d, .d, .d, .d, .d, .d, .d, .v (.int .u64 4), .d, .d, .d, .d, .d, .d, .d, .d, .v (.int .u64 2), .d, .d, .d, .d, .d, .d, .d, .d, .v (.int .u64 0), .d, .d, .d, .d, .d, .v (.int .i64 1), .d, .d, .d, .d, .d]
      (by kernel_rfl) (ob := [0 ≤ (0 : Int),
        0 ≤ (1 : Int) ∧ (1 : Int) ≤ ((([.int .u64 4, .int .u64 6] : List AV)).length : Int) ∧ ((([.int .u64 4, .int .u64 6] : List AV)).length : Int) ≤ ((([.int .u64 4, .int .u64 6] : List AV) : List AV).length : Int),
        ∀ x ∈ (([.int .u64 4, .int .u64 6] : List AV) : List AV), (cellsOf x).length = 1,
        (.int .i64 (([.int .u64 6] : List AV).length : Int) : AV) = (.int .i64 1 : AV),
        0 ≤ (0 : Int),
        (.int .u64 ((4 : Int).tmod 6) : AV) = (.int .u64 4 : AV),
        (6 : Int) ≠ 0,
        (.int .u64 ((6 : Int).tmod 4) : AV) = (.int .u64 2 : AV),
        (4 : Int) ≠ 0,
        (.int .u64 ((4 : Int).tmod 2) : AV) = (.int .u64 0 : AV),
        (2 : Int) ≠ 0,
        (.int .i64 (IntKind.wrap .i64 (0 + 1)) : AV) = (.int .i64 1 : AV),
        (2 : Int) = 2]) (by kernel_rfl)
      ⟨(by decide), (by first | (simp; done) | omega | (simp; omega)), (by simp [cellsOf]), rfl, (by decide), rfl, (by decide), rfl, (by decide), rfl, (by decide), rfl, rfl, trivial⟩

theorem ex55_25   : FnF Try.prog 55 true [.agg [.bool false, .int .u64 0, .int .u64 2]] (.tuple [.int .i64 2, .bool true]) :=
  fn_evF (by kernel_rfl) Try.func55 (by kernel_rfl) 400
      [.d, .d, .d, .d, .d, .d, .d, .d, .d, .d, .d, .d, .d, .d, .d, .d, .d, .v (.int .i64 2), .d, .d]
      (by kernel_rfl) (ob := [(.int .i64 (IntKind.wrap .i64 (2)) : AV) = (.int .i64 2 : AV),
        (2 : Int) = 2,
        (true : Bool) = true]) (by kernel_rfl)
      ⟨rfl, rfl, rfl, trivial⟩

theorem ex55_26   : FnF Try.prog 55 true [.agg [.bool false, .int .u64 0, .int .u64 3]] (.tuple [.int .i64 3, .bool true]) :=
  fn_evF (by kernel_rfl) Try.func55 (by kernel_rfl) 400
      [.d, .d, .d, .d, .d, .d, .d, .d, .d, .d, .d, .d, .d, .d, .d, .d, .d, .v (.int .i64 3), .d, .d]
      (by kernel_rfl) (ob := [(.int .i64 (IntKind.wrap .i64 (3)) : AV) = (.int .i64 3 : AV),
        (3 : Int) = 3,
        (true : Bool) = true]) (by kernel_rfl)
      ⟨rfl, rfl, rfl, trivial⟩

theorem ex38_27   : FnF Try.prog 38 true [.agg [.bool false, .int .u64 0, .int .u64 2], .agg [.bool false, .int .u64 0, .int .u64 3]] (.tuple [.agg [.int .i64 2, .int .i64 3], .int .i64 0]) :=
  fn_evF (by kernel_rfl) Try.func38 (by kernel_rfl) 400
      [.d, .d, .d, .d, .d, .f true (.tuple [.int .i64 2, .bool true]), .d, .d, .d, .d, .d, .d, .f true (.tuple [.int .i64 3, .bool true]), .d, .d, .d, .d, .d, .d, .d, .d, .d, .d, .d, .d, .d, .d, .d, .d, .d]
      (by kernel_rfl) (ob := [FnF Try.prog 55 true [.agg [.bool false, .int .u64 0, .int .u64 2]] (.tuple [.int .i64 2, .bool true]),
        FnF Try.prog 55 true [.agg [.bool false, .int .u64 0, .int .u64 3]] (.tuple [.int .i64 3, .bool true]),
        (2 : Int) = 2,
        (3 : Int) = 3,
        (0 : Int) = 0]) (by kernel_rfl)
      ⟨ex55_25, ex55_26, rfl, rfl, rfl, trivial⟩

theorem ex46_28   : FnF Try.prog 46 true [.int .i64 4, .int .i64 6] (.tuple [.agg [.int .i64 2, .int .i64 3], .int .i64 0]) :=
  fn_evF (by kernel_rfl) Try.func46 (by kernel_rfl) 400
      [.d, .d, .d, .d, .d, .d, .d, .d, .d, .f true (.int .u64 4), .d, .f true (.int .u64 6), .d, .f true (.int .u64 2), .d, .d, .d, .d, .d, .v (.bool false), .d, .f true (.int .u64 4), .d, .v (.int .u64 2), .d, .d, .f true (.int .u64 6), .d, .v (.int .u64 3), .d, .f true (.tuple [.agg [.int .i64 2, .int .i64 3], .int .i64 0]), .d, .d, .d, .d]
      (by kernel_rfl) (ob := [FnF Try.prog 34 true [.int .i64 4] (.int .u64 4),
        FnF Try.prog 34 true [.int .i64 6] (.int .u64 6),
        FnF Try.prog 33 true [.list [.int .u64 4, .int .u64 6]] (.int .u64 2),
        ∀ e ∈ ([.int .u64 4, .int .u64 6] : List AV), idsOf e = [],
        (.bool (!(false == false)) : AV) = (.bool false : AV),
        FnF Try.prog 34 true [.int .i64 4] (.int .u64 4),
        (.int .u64 (IntKind.wrap .u64 ((4 : Int).tdiv 2)) : AV) = (.int .u64 2 : AV),
        (2 : Int) ≠ 0,
        FnF Try.prog 34 true [.int .i64 6] (.int .u64 6),
        (.int .u64 (IntKind.wrap .u64 ((6 : Int).tdiv 2)) : AV) = (.int .u64 3 : AV),
        (2 : Int) ≠ 0,
        FnF Try.prog 38 true [.agg [.bool false, .int .u64 0, .int .u64 2], .agg [.bool false, .int .u64 0, .int .u64 3]] (.tuple [.agg [.int .i64 2, .int .i64 3], .int .i64 0]),
        (2 : Int) = 2,
        (3 : Int) = 3,
        (0 : Int) = 0]) (by kernel_rfl)
      ⟨ex34_23, ex34_13, ex33_24, (by simp [idsOf, idsL]), bneB rfl rfl, ex34_23, rfl, (by decide), ex34_13, rfl, (by decide), ex38_27, rfl, rfl, rfl, trivial⟩

theorem ex30_29   : FnF Try.prog 30 true [.list [.agg [.int .i64 4, .int .i64 3, .int .i64 1]], .int .i64 4, .int .i64 1] (.tuple [.agg [.int .i64 2, .int .i64 3], .int .i64 0]) :=
  fn_evF (by kernel_rfl) Try.func30 (by kernel_rfl) 400
      [.d, .d, .d, .d, .d, .d, .d, .d, .d, .d, .d, .f true (.agg [.int .i64 4, .int .i64 3, .int .i64 1]), .d, .d, .d, .d, .v (.int .i64 4), .d, .v (.int .i64 4), .d, .d, .d, .d, .v (.int .i64 4), .v (.int .i64 6), .f true (.tuple [.agg [.int .i64 2, .int .i64 3], .int .i64 0]), .d, .d, .d, .d]
      (by kernel_rfl) (ob := [FnF Try.prog 45 true [.list [.agg [.int .i64 4, .int .i64 3, .int .i64 1]], .int .i64 4] (.agg [.int .i64 4, .int .i64 3, .int .i64 1]),
        (.int .i64 (IntKind.wrap .i64 (3 + 1)) : AV) = (.int .i64 4 : AV),
        (.int .i64 (IntKind.wrap .i64 (4 * 1)) : AV) = (.int .i64 4 : AV),
        (.int .i64 (IntKind.wrap .i64 (3 + 1)) : AV) = (.int .i64 4 : AV),
        (.int .i64 (IntKind.wrap .i64 (4 + 2)) : AV) = (.int .i64 6 : AV),
        FnF Try.prog 46 true [.int .i64 4, .int .i64 6] (.tuple [.agg [.int .i64 2, .int .i64 3], .int .i64 0]),
        (2 : Int) = 2,
        (3 : Int) = 3,
        (0 : Int) = 0]) (by kernel_rfl)
      ⟨ex45_11, rfl, rfl, rfl, rfl, ex46_28, rfl, rfl, rfl, trivial⟩

theorem ex16_30   : FnF Try.prog 16 true [.list [.agg [.int .i64 4, .int .i64 3, .int .i64 1]], .int .i64 4] (.agg [.int .i64 2, .int .i64 3]) :=
  fn_evF (by kernel_rfl) Try.func16 (by kernel_rfl) 400
      [.d, .d, .d, .f true (.tuple [.agg [.int .i64 2, .int .i64 3], .int .i64 0]), .d, .d, .d, .d, .d, .d, .d, .d]
      (by kernel_rfl) (ob := [FnF Try.prog 30 true [.list [.agg [.int .i64 4, .int .i64 3, .int .i64 1]], .int .i64 4, .int .i64 1] (.tuple [.agg [.int .i64 2, .int .i64 3], .int .i64 0]),
        (2 : Int) = 2,
        (3 : Int) = 3]) (by kernel_rfl)
      ⟨ex30_29, rfl, rfl, trivial⟩

theorem ex58_31   : FnF Try.prog 58 true [.list [.agg [.int .i64 4, .int .i64 3, .int .i64 2]], .agg [.int .i64 4, .int .i64 3, .int .i64 2], .int .i64 4] (.int .i64 0) :=
  fn_evF (by kernel_rfl) Try.func58 (by kernel_rfl) 400
      [.d, .d, .d, .d, .d, .v (.int .i64 0), .d]
      (by kernel_rfl) (ob := [(.int .i64 (IntKind.wrap .i64 (4 - 4)) : AV) = (.int .i64 0 : AV),
        (0 : Int) = 0]) (by kernel_rfl)
      ⟨rfl, rfl, trivial⟩

theorem ex57_32   : FnF Try.prog 57 true [.list [.agg [.int .i64 4, .int .i64 3, .int .i64 2]], .int .i64 4, .func (.func 58) [.list [.agg [.int .i64 4, .int .i64 3, .int .i64 2]]] []] (.tuple [.int .i64 0, .bool true]) :=
  fn_evF (by kernel_rfl) Try.func57 (by kernel_rfl) 400
      [.d, .d, .d, .v (.int .i64 1), .d, .d, .d, .d, .d, .d, .d, .d, .d, .d, .v (.int .i64 1), .v (.int .u64 1), .v (.int .u64 0), .v (.int .i64 0), .d, .d, .d, .d, .d, .d, .d, .f true (.int .i64 0), .d, .d, .d, .d, .d, .d, .d, .d, .d, .d, .d, .d, .d, .d, .d, .d, .d, .d, .d, .f true (.int .i64 0), .d, .d, .d, .d]
      (by kernel_rfl) (ob := [(.int .i64 (([.agg [.int .i64 4, .int .i64 3, .int .i64 2]] : List AV).length : Int) : AV) = (.int .i64 1 : AV),
        (.int .i64 (IntKind.wrap .i64 (0 + 1)) : AV) = (.int .i64 1 : AV),
        (.int .u64 (IntKind.wrap .u64 (1)) : AV) = (.int .u64 1 : AV),
        (.int .u64 (Int.fdiv 1 (2 ^ (min (1 : Int).toNat (IntKind.bits .u64)))) : AV) = (.int .u64 0 : AV),
        0 ≤ (1 : Int),
        (.int .i64 (IntKind.wrap .i64 (0)) : AV) = (.int .i64 0 : AV),
        0 ≤ (0 : Int),
        FnF Try.prog 58 true [.list [.agg [.int .i64 4, .int .i64 3, .int .i64 2]], .agg [.int .i64 4, .int .i64 3, .int .i64 2], .int .i64 4] (.int .i64 0),
        0 ≤ (0 : Int),
        FnF Try.prog 58 true [.list [.agg [.int .i64 4, .int .i64 3, .int .i64 2]], .agg [.int .i64 4, .int .i64 3, .int .i64 2], .int .i64 4] (.int .i64 0),
        (0 : Int) = 0,
        (true : Bool) = true]) (by kernel_rfl)
      ⟨rfl, rfl, rfl, rfl, (by decide), rfl, (by decide), ex58_31, (by decide), ex58_31, rfl, rfl, trivial⟩

theorem ex45_33   : FnF Try.prog 45 true [.list [.agg [.int .i64 4, .int .i64 3, .int .i64 2]], .int .i64 4] (.agg [.int .i64 4, .int .i64 3, .int .i64 2]) :=
  fn_evF (by kernel_rfl) Try.func45 (by kernel_rfl) 400
      [.d, .d, .d, .d, .d, .f true (.tuple [.int .i64 0, .bool true]), .d, .d, .d, .d, .d, .d, .d, .d, .d, .d, .d, .d, .d]
      (by kernel_rfl) (ob := [FnF Try.prog 57 true [.list [.agg [.int .i64 4, .int .i64 3, .int .i64 2]], .int .i64 4, .func (.func 58) [.list [.agg [.int .i64 4, .int .i64 3, .int .i64 2]]] []] (.tuple [.int .i64 0, .bool true]),
        0 ≤ (0 : Int),
        (4 : Int) = 4,
        (3 : Int) = 3,
        (2 : Int) = 2]) (by kernel_rfl)
      ⟨ex57_32, (by decide), rfl, rfl, rfl, trivial⟩

theorem ex34_34   : FnF Try.prog 34 true [.int .i64 7] (.int .u64 7) :=
  fn_evF (by kernel_rfl) Try.func34 (by kernel_rfl) 400
      [.d, .d, .d, .d, .d, .v (.int .u64 7), .d]
      (by kernel_rfl) (ob := [(.int .u64 (IntKind.wrap .u64 (7)) : AV) = (.int .u64 7 : AV),
        (7 : Int) = 7]) (by kernel_rfl)
      ⟨rfl, rfl, trivial⟩

theorem ex33_35   : FnF Try.prog 33 true [.list [.int .u64 4, .int .u64 7]] (.int .u64 1) :=
  fn_evF (by kernel_rfl) Try.func33 (by kernel_rfl) 400
      [.d, .d, .d, .d, .d, .d, .d, .v (.int .i64 1), .d, .d, .d, .d, .d, .d, .d, .d, .d, .d, .d, .d, .v (.int .u64 4), .d, .d, .d, .d, .d, .d, .d, .d, .v (.int .u64 3), .d, .d, .d, .d, .d, .d, .d, .d, .v (.int .u64 1), .d, .d, .d, .d, .d, .d, .d, .d, .v (.int .u64 0), .d, .d, .d, .d, .d, .v (.int .i64 1), .d, .d, .d, .d, .d]
      (by kernel_rfl) (ob := [0 ≤ (0 : Int),
        0 ≤ (1 : Int) ∧ (1 : Int) ≤ ((([.int .u64 4, .int .u64 7] : List AV)).length : Int) ∧ ((([.int .u64 4, .int .u64 7] : List AV)).length : Int) ≤ ((([.int .u64 4, .int .u64 7] : List AV) : List AV).length : Int),
        ∀ x ∈ (([.int .u64 4, .int .u64 7] : List AV) : List AV), (cellsOf x).length = 1,
        (.int .i64 (([.int .u64 7] : List AV).length : Int) : AV) = (.int .i64 1 : AV),
        0 ≤ (0 : Int),
        (.int .u64 ((4 : Int).tmod 7) : AV) = (.int .u64 4 : AV),
        (7 : Int) ≠ 0,
        (.int .u64 ((7 : Int).tmod 4) : AV) = (.int .u64 3 : AV),
        (4 : Int) ≠ 0,
        (.int .u64 ((4 : Int).tmod 3) : AV) = (.int .u64 1 : AV),
        (3 : Int) ≠ 0,
        (.int .u64 ((3 : Int).tmod 1) : AV) = (.int .u64 0 : AV),
        (1 : Int) ≠ 0,
        (.int .i64 (IntKind.wrap .i64 (0 + 1)) : AV) = (.int .i64 1 : AV),
        (1 : Int) = 1]) (by kernel_rfl)
      ⟨(by decide), (by first | (simp; done) | omega | (simp; omega)), (by simp [cellsOf]), rfl, (by decide), rfl, (by decide), rfl, (by decide), rfl, (by decide), rfl, (by decide), rfl, rfl, trivial⟩

theorem ex55_36   : FnF Try.prog 55 true [.agg [.bool false, .int .u64 0, .int .u64 4]] (.tuple [.int .i64 4, .bool true]) :=
  fn_evF (by kernel_rfl) Try.func55 (by kernel_rfl) 400
      [.d, .d, .d, .d, .d, .d, .d, .d, .d, .d, .d, .d, .d, .d, .d, .d, .d, .v (.int .i64 4), .d, .d]
      (by kernel_rfl) (ob := [(.int .i64 (IntKind.wrap .i64 (4)) : AV) = (.int .i64 4 : AV),
        (4 : Int) = 4,
        (true : Bool) = true]) (by kernel_rfl)
      ⟨rfl, rfl, rfl, trivial⟩

theorem ex55_37   : FnF Try.prog 55 true [.agg [.bool false, .int .u64 0, .int .u64 7]] (.tuple [.int .i64 7, .bool true]) :=
  fn_evF (by kernel_rfl) Try.func55 (by kernel_rfl) 400
      [.d, .d, .d, .d, .d, .d, .d, .d, .d, .d, .d, .d, .d, .d, .d, .d, .d, .v (.int .i64 7), .d, .d]
      (by kernel_rfl) (ob := [(.int .i64 (IntKind.wrap .i64 (7)) : AV) = (.int .i64 7 : AV),
        (7 : Int) = 7,
        (true : Bool) = true]) (by kernel_rfl)
      ⟨rfl, rfl, rfl, trivial⟩

theorem ex38_38   : FnF Try.prog 38 true [.agg [.bool false, .int .u64 0, .int .u64 4], .agg [.bool false, .int .u64 0, .int .u64 7]] (.tuple [.agg [.int .i64 4, .int .i64 7], .int .i64 0]) :=
  fn_evF (by kernel_rfl) Try.func38 (by kernel_rfl) 400
      [.d, .d, .d, .d, .d, .f true (.tuple [.int .i64 4, .bool true]), .d, .d, .d, .d, .d, .d, .f true (.tuple [.int .i64 7, .bool true]), .d, .d, .d, .d, .d, .d, .d, .d, .d, .d, .d, .d, .d, .d, .d, .d, .d]
      (by kernel_rfl) (ob := [FnF Try.prog 55 true [.agg [.bool false, .int .u64 0, .int .u64 4]] (.tuple [.int .i64 4, .bool true]),
        FnF Try.prog 55 true [.agg [.bool false, .int .u64 0, .int .u64 7]] (.tuple [.int .i64 7, .bool true]),
        (4 : Int) = 4,
        (7 : Int) = 7,
        (0 : Int) = 0]) (by kernel_rfl)
      ⟨ex55_36, ex55_37, rfl, rfl, rfl, trivial⟩

theorem ex46_39   : FnF Try.prog 46 true [.int .i64 4, .int .i64 7] (.tuple [.agg [.int .i64 4, .int .i64 7], .int .i64 0]) :=
  fn_evF (by kernel_rfl) Try.func46 (by kernel_rfl) 400
      [.d, .d, .d, .d, .d, .d, .d, .d, .d, .f true (.int .u64 4), .d, .f true (.int .u64 7), .d, .f true (.int .u64 1), .d, .d, .d, .d, .d, .v (.bool false), .d, .f true (.int .u64 4), .d, .v (.int .u64 4), .d, .d, .f true (.int .u64 7), .d, .v (.int .u64 7), .d, .f true (.tuple [.agg [.int .i64 4, .int .i64 7], .int .i64 0]), .d, .d, .d, .d]
      (by kernel_rfl) (ob := [FnF Try.prog 34 true [.int .i64 4] (.int .u64 4),
        FnF Try.prog 34 true [.int .i64 7] (.int .u64 7),
        FnF Try.prog 33 true [.list [.int .u64 4, .int .u64 7]] (.int .u64 1),
        ∀ e ∈ ([.int .u64 4, .int .u64 7] : List AV), idsOf e = [],
        (.bool (!(false == false)) : AV) = (.bool false : AV),
        FnF Try.prog 34 true [.int .i64 4] (.int .u64 4),
        (.int .u64 (IntKind.wrap .u64 ((4 : Int).tdiv 1)) : AV) = (.int .u64 4 : AV),
        (1 : Int) ≠ 0,
        FnF Try.prog 34 true [.int .i64 7] (.int .u64 7),
        (.int .u64 (IntKind.wrap .u64 ((7 : Int).tdiv 1)) : AV) = (.int .u64 7 : AV),
        (1 : Int) ≠ 0,
        FnF Try.prog 38 true [.agg [.bool false, .int .u64 0, .int .u64 4], .agg [.bool false, .int .u64 0, .int .u64 7]] (.tuple [.agg [.int .i64 4, .int .i64 7], .int .i64 0]),
        (4 : Int) = 4,
        (7 : Int) = 7,
        (0 : Int) = 0]) (by kernel_rfl)
      ⟨ex34_23, ex34_34, ex33_35, (by simp [idsOf, idsL]), bneB rfl rfl, ex34_23, rfl, (by decide), ex34_34, rfl, (by decide), ex38_38, rfl, rfl, rfl, trivial⟩

theorem ex30_40   : FnF Try.prog 30 true [.list [.agg [.int .i64 4, .int .i64 3, .int .i64 2]], .int .i64 4, .int .i64 1] (.tuple [.agg [.int .i64 4, .int .i64 7], .int .i64 0]) :=
  fn_evF (by kernel_rfl) Try.func30 (by kernel_rfl) 400
      [.d, .d, .d, .d, .d, .d, .d, .d, .d, .d, .d, .f true (.agg [.int .i64 4, .int .i64 3, .int .i64 2]), .d, .d, .d, .d, .v (.int .i64 4), .d, .v (.int .i64 4), .d, .d, .d, .d, .v (.int .i64 5), .v (.int .i64 7), .f true (.tuple [.agg [.int .i64 4, .int .i64 7], .int .i64 0]), .d, .d, .d, .d]
      (by kernel_rfl) (ob := [FnF Try.prog 45 true [.list [.agg [.int .i64 4, .int .i64 3, .int .i64 2]], .int .i64 4] (.agg [.int .i64 4, .int .i64 3, .int .i64 2]),
        (.int .i64 (IntKind.wrap .i64 (3 + 1)) : AV) = (.int .i64 4 : AV),
        (.int .i64 (IntKind.wrap .i64 (4 * 1)) : AV) = (.int .i64 4 : AV),
        (.int .i64 (IntKind.wrap .i64 (3 + 2)) : AV) = (.int .i64 5 : AV),
        (.int .i64 (IntKind.wrap .i64 (5 + 2)) : AV) = (.int .i64 7 : AV),
        FnF Try.prog 46 true [.int .i64 4, .int .i64 7] (.tuple [.agg [.int .i64 4, .int .i64 7], .int .i64 0]),
        (4 : Int) = 4,
        (7 : Int) = 7,
        (0 : Int) = 0]) (by kernel_rfl)
      ⟨ex45_33, rfl, rfl, rfl, rfl, ex46_39, rfl, rfl, rfl, trivial⟩

theorem ex16_41   : FnF Try.prog 16 true [.list [.agg [.int .i64 4, .int .i64 3, .int .i64 2]], .int .i64 4] (.agg [.int .i64 4, .int .i64 7]) :=
  fn_evF (by kernel_rfl) Try.func16 (by kernel_rfl) 400
      [.d, .d, .d, .f true (.tuple [.agg [.int .i64 4, .int .i64 7], .int .i64 0]), .d, .d, .d, .d, .d, .d, .d, .d]
      (by kernel_rfl) (ob := [FnF Try.prog 30 true [.list [.agg [.int .i64 4, .int .i64 3, .int .i64 2]], .int .i64 4, .int .i64 1] (.tuple [.agg [.int .i64 4, .int .i64 7], .int .i64 0]),
        (4 : Int) = 4,
        (7 : Int) = 7]) (by kernel_rfl)
      ⟨ex30_40, rfl, rfl, trivial⟩

theorem ex57_42   : FnF Try.prog 57 true [.nilslice, .int .i64 4, .func (.func 58) [.nilslice] []] (.tuple [.int .i64 0, .bool false]) :=
  fn_evF (by kernel_rfl) Try.func57 (by kernel_rfl) 400
      [.d, .d, .d, .d, .d, .d, .d, .d, .d, .d, .d, .d, .d, .d, .d, .d, .d, .d, .d, .d, .d, .d, .d, .d, .d, .d, .d, .d]
      (by kernel_rfl) (ob := [(0 : Int) = 0,
        (false : Bool) = false]) (by kernel_rfl)
      ⟨rfl, rfl, trivial⟩

theorem ex45_43   : FnF Try.prog 45 true [.nilslice, .int .i64 4] (.agg [.int .i64 4, .int .i64 0, .int .i64 0]) :=
  fn_evF (by kernel_rfl) Try.func45 (by kernel_rfl) 400
      [.d, .d, .d, .d, .d, .f true (.tuple [.int .i64 0, .bool false]), .d, .d, .d, .d, .d, .d, .d, .d, .d, .d, .d]
      (by kernel_rfl) (ob := [FnF Try.prog 57 true [.nilslice, .int .i64 4, .func (.func 58) [.nilslice] []] (.tuple [.int .i64 0, .bool false]),
        (4 : Int) = 4,
        (0 : Int) = 0,
        (0 : Int) = 0]) (by kernel_rfl)
      ⟨ex57_42, rfl, rfl, rfl, trivial⟩

theorem ex34_44   : FnF Try.prog 34 true [.int .i64 1] (.int .u64 1) :=
  fn_evF (by kernel_rfl) Try.func34 (by kernel_rfl) 400
      [.d, .d, .d, .d, .d, .v (.int .u64 1), .d]
      (by kernel_rfl) (ob := [(.int .u64 (IntKind.wrap .u64 (1)) : AV) = (.int .u64 1 : AV),
        (1 : Int) = 1]) (by kernel_rfl)
      ⟨rfl, rfl, trivial⟩

theorem ex34_45   : FnF Try.prog 34 true [.int .i64 2] (.int .u64 2) :=
  fn_evF (by kernel_rfl) Try.func34 (by kernel_rfl) 400
      [.d, .d, .d, .d, .d, .v (.int .u64 2), .d]
      (by kernel_rfl) (ob := [(.int .u64 (IntKind.wrap .u64 (2)) : AV) = (.int .u64 2 : AV),
        (2 : Int) = 2]) (by kernel_rfl)
      ⟨rfl, rfl, trivial⟩

theorem ex33_46   : FnF Try.prog 33 true [.list [.int .u64 1, .int .u64 2]] (.int .u64 1) :=
  fn_evF (by kernel_rfl) Try.func33 (by kernel_rfl) 400
      [.d, .d, .d, .d, .d, .d, .d, .v (.int .i64 1), .d, .d, .d, .d, .d, .d, .d, .d, .d, .d, .d, .d, .v (.int .u64 1), .d, .d, .d, .d, .d, .d, .d, .d, .v (.int .u64 0), .d, .d, .d, .d, .d, .v (.int .i64 1), .d, .d, .d, .d, .d]
      (by kernel_rfl) (ob := [0 ≤ (0 : Int),
        0 ≤ (1 : Int) ∧ (1 : Int) ≤ ((([.int .u64 1, .int .u64 2] : List AV)).length : Int) ∧ ((([.int .u64 1, .int .u64 2] : List AV)).length : Int) ≤ ((([.int .u64 1, .int .u64 2] : List AV) : List AV).length : Int),
        ∀ x ∈ (([.int .u64 1, .int .u64 2] : List AV) : List AV), (cellsOf x).length = 1,
        (.int .i64 (([.int .u64 2] : List AV).length : Int) : AV) = (.int .i64 1 : AV),
        0 ≤ (0 : Int),
        (.int .u64 ((1 : Int).tmod 2) : AV) = (.int .u64 1 : AV),
        (2 : Int) ≠ 0,
        (.int .u64 ((2 : Int).tmod 1) : AV) = (.int .u64 0 : AV),
        (1 : Int) ≠ 0,
        (.int .i64 (IntKind.wrap .i64 (0 + 1)) : AV) = (.int .i64 1 : AV),
        (1 : Int) = 1]) (by kernel_rfl)
      ⟨(by decide), (by first | (simp; done) | omega | (simp; omega)), (by simp [cellsOf]), rfl, (by decide), rfl, (by decide), rfl, (by decide), rfl, rfl, trivial⟩

theorem ex38_47   : FnF Try.prog 38 true [.agg [.bool false, .int .u64 0, .int .u64 1], .agg [.bool false, .int .u64 0, .int .u64 2]] (.tuple [.agg [.int .i64 1, .int .i64 2], .int .i64 0]) :=
  fn_evF (by kernel_rfl) Try.func38 (by kernel_rfl) 400
      [.d, .d, .d, .d, .d, .f true (.tuple [.int .i64 1, .bool true]), .d, .d, .d, .d, .d, .d, .f true (.tuple [.int .i64 2, .bool true]), .d, .d, .d, .d, .d, .d, .d, .d, .d, .d, .d, .d, .d, .d, .d, .d, .d]
      (by kernel_rfl) (ob := [FnF Try.prog 55 true [.agg [.bool false, .int .u64 0, .int .u64 1]] (.tuple [.int .i64 1, .bool true]),
        FnF Try.prog 55 true [.agg [.bool false, .int .u64 0, .int .u64 2]] (.tuple [.int .i64 2, .bool true]),
        (1 : Int) = 1,
        (2 : Int) = 2,
        (0 : Int) = 0]) (by kernel_rfl)
      ⟨ex55_16, ex55_25, rfl, rfl, rfl, trivial⟩

theorem ex46_48   : FnF Try.prog 46 true [.int .i64 1, .int .i64 2] (.tuple [.agg [.int .i64 1, .int .i64 2], .int .i64 0]) :=
  fn_evF (by kernel_rfl) Try.func46 (by kernel_rfl) 400
      [.d, .d, .d, .d, .d, .d, .d, .d, .d, .f true (.int .u64 1), .d, .f true (.int .u64 2), .d, .f true (.int .u64 1), .d, .d, .d, .d, .d, .v (.bool false), .d, .f true (.int .u64 1), .d, .v (.int .u64 1), .d, .d, .f true (.int .u64 2), .d, .v (.int .u64 2), .d, .f true (.tuple [.agg [.int .i64 1, .int .i64 2], .int .i64 0]), .d, .d, .d, .d]
      (by kernel_rfl) (ob := [FnF Try.prog 34 true [.int .i64 1] (.int .u64 1),
        FnF Try.prog 34 true [.int .i64 2] (.int .u64 2),
        FnF Try.prog 33 true [.list [.int .u64 1, .int .u64 2]] (.int .u64 1),
        ∀ e ∈ ([.int .u64 1, .int .u64 2] : List AV), idsOf e = [],
        (.bool (!(false == false)) : AV) = (.bool false : AV),
        FnF Try.prog 34 true [.int .i64 1] (.int .u64 1),
        (.int .u64 (IntKind.wrap .u64 ((1 : Int).tdiv 1)) : AV) = (.int .u64 1 : AV),
        (1 : Int) ≠ 0,
        FnF Try.prog 34 true [.int .i64 2] (.int .u64 2),
        (.int .u64 (IntKind.wrap .u64 ((2 : Int).tdiv 1)) : AV) = (.int .u64 2 : AV),
        (1 : Int) ≠ 0,
        FnF Try.prog 38 true [.agg [.bool false, .int .u64 0, .int .u64 1], .agg [.bool false, .int .u64 0, .int .u64 2]] (.tuple [.agg [.int .i64 1, .int .i64 2], .int .i64 0]),
        (1 : Int) = 1,
        (2 : Int) = 2,
        (0 : Int) = 0]) (by kernel_rfl)
      ⟨ex34_44, ex34_45, ex33_46, (by simp [idsOf, idsL]), bneB rfl rfl, ex34_44, rfl, (by decide), ex34_45, rfl, (by decide), ex38_47, rfl, rfl, rfl, trivial⟩

theorem ex30_49   : FnF Try.prog 30 true [.nilslice, .int .i64 4, .int .i64 1] (.tuple [.agg [.int .i64 1, .int .i64 2], .int .i64 0]) :=
  fn_evF (by kernel_rfl) Try.func30 (by kernel_rfl) 400
      [.d, .d, .d, .d, .d, .d, .d, .d, .d, .d, .d, .f true (.agg [.int .i64 4, .int .i64 0, .int .i64 0]), .d, .d, .d, .d, .v (.int .i64 1), .d, .v (.int .i64 1), .d, .d, .d, .d, .v (.int .i64 0), .v (.int .i64 2), .f true (.tuple [.agg [.int .i64 1, .int .i64 2], .int .i64 0]), .d, .d, .d, .d]
      (by kernel_rfl) (ob := [FnF Try.prog 45 true [.nilslice, .int .i64 4] (.agg [.int .i64 4, .int .i64 0, .int .i64 0]),
        (.int .i64 (IntKind.wrap .i64 (0 + 1)) : AV) = (.int .i64 1 : AV),
        (.int .i64 (IntKind.wrap .i64 (1 * 1)) : AV) = (.int .i64 1 : AV),
        (.int .i64 (IntKind.wrap .i64 (0 + 0)) : AV) = (.int .i64 0 : AV),
        (.int .i64 (IntKind.wrap .i64 (0 + 2)) : AV) = (.int .i64 2 : AV),
        FnF Try.prog 46 true [.int .i64 1, .int .i64 2] (.tuple [.agg [.int .i64 1, .int .i64 2], .int .i64 0]),
        (1 : Int) = 1,
        (2 : Int) = 2,
        (0 : Int) = 0]) (by kernel_rfl)
      ⟨ex45_43, rfl, rfl, rfl, rfl, ex46_48, rfl, rfl, rfl, trivial⟩

theorem ex16_50   : FnF Try.prog 16 true [.nilslice, .int .i64 4] (.agg [.int .i64 1, .int .i64 2]) :=
  fn_evF (by kernel_rfl) Try.func16 (by kernel_rfl) 400
      [.d, .d, .d, .f true (.tuple [.agg [.int .i64 1, .int .i64 2], .int .i64 0]), .d, .d, .d, .d, .d, .d, .d, .d]
      (by kernel_rfl) (ob := [FnF Try.prog 30 true [.nilslice, .int .i64 4, .int .i64 1] (.tuple [.agg [.int .i64 1, .int .i64 2], .int .i64 0]),
        (1 : Int) = 1,
        (2 : Int) = 2]) (by kernel_rfl)
      ⟨ex30_49, rfl, rfl, trivial⟩

theorem ex_examples   : FnF Try.prog 9 true [] (.bool true) := by
  exact fn_evF (by kernel_rfl) Try.func9 (by kernel_rfl) 400 [.d, .d, .d, .d, .d, .c (.agg [.slice 0 0 1 0, .int .i64 0]) [.row 3 [.agg [.int .i64 4, .int .i64 3, .int .i64 2]] 0], .d, .d, .d, .f true (.agg [.int .i64 6, .int .i64 1, .int .i64 0]), .d, .d, .d, .f true (.int .i64 0), .d, .d, .d, .d, .f true (.int .i64 1), .d, .d, .d, .d, .f true (.agg [.int .i64 2, .int .i64 3]), .d, .v (.bool true), .d, .d, .d, .d, .d, .d, .d, .d, .d, .f true (.agg [.int .i64 4, .int .i64 7]), .d, .v (.bool true), .d, .d, .d, .d, .d, .d, .d, .d, .d, .d, .v (.bool true), .d, .d, .f true (.agg [.int .i64 1, .int .i64 2]), .d, .v (.bool true), .d, .d] (by kernel_rfl) (ob := [FnM Try.prog 20 [] [.list [.agg [.int .i64 4, .int .i64 3, .int .i64 1]], .int .i64 4, .bool false] (.agg [.slice 0 0 1 0, .int .i64 0]) [.row 3 [.agg [.int .i64 4, .int .i64 3, .int .i64 2]] 0], plainV (.agg [.slice 0 0 1 0, .int .i64 0]) = true, ∀ x ∈ ([.row 3 [.agg [.int .i64 4, .int .i64 3, .int .i64 2]] 0] : List Blk), PlainB x, ∀ e ∈ ([.agg [.int .i64 4, .int .i64 3, .int .i64 2]] : List AV), idsOf e = [], ∀ e ∈ ([.agg [.int .i64 4, .int .i64 3, .int .i64 1]] : List AV), idsOf e = [], FnF Try.prog 18 true [.list [.agg [.int .i64 4, .int .i64 3, .int .i64 1]], .int .i64 4, .int .i64 9] (.agg [.int .i64 6, .int .i64 1, .int .i64 0]), ∀ e ∈ ([.agg [.int .i64 4, .int .i64 3, .int .i64 1]] : List AV), idsOf e = [], FnF Try.prog 11 true [.list [.agg [.int .i64 4, .int .i64 3, .int .i64 1]]] (.int .i64 0), ∀ e ∈ ([.agg [.int .i64 4, .int .i64 3, .int .i64 1]] : List AV), idsOf e = [], FnF Try.prog 11 true [.list [.agg [.int .i64 15, .int .i64 0, .int .i64 0]]] (.int .i64 1), ∀ e ∈ ([.agg [.int .i64 15, .int .i64 0, .int .i64 0]] : List AV), idsOf e = [], FnF Try.prog 16 true [.list [.agg [.int .i64 4, .int .i64 3, .int .i64 1]], .int .i64 4] (.agg [.int .i64 2, .int .i64 3]), ∀ e ∈ ([.agg [.int .i64 4, .int .i64 3, .int .i64 1]] : List AV), idsOf e = [], (.bool (((2 : Int) == 2) && (((3 : Int) == 3) && true)) : AV) = (.bool true : AV), FnF Try.prog 16 true [.list [.agg [.int .i64 4, .int .i64 3, .int .i64 2]], .int .i64 4] (.agg [.int .i64 4, .int .i64 7]), ∀ e ∈ ([.agg [.int .i64 4, .int .i64 3, .int .i64 2]] : List AV), idsOf e = [], (.bool (((4 : Int) == 4) && (((7 : Int) == 7) && true)) : AV) = (.bool true : AV), (.bool (((6 : Int) == 6) && (((1 : Int) == 1) && true)) : AV) = (.bool true : AV), FnF Try.prog 16 true [.nilslice, .int .i64 4] (.agg [.int .i64 1, .int .i64 2]), (.bool (((1 : Int) == 1) && (((2 : Int) == 2) && true)) : AV) = (.bool true : AV), (true : Bool) = true]) (by kernel_rfl) ⟨ex20_8, rfl, (by simp [PlainB, plainV, plainL]), (by simp [idsOf, idsL]), (by simp [idsOf, idsL]), ex18_20, (by simp [idsOf, idsL]), ex11_21, (by simp [idsOf, idsL]), ex11_22, (by simp [idsOf, idsL]), ex16_30, (by simp [idsOf, idsL]), (bAnd (eT (by omega)) (bAnd (eT (by omega)) rfl)), ex16_41, (by simp [idsOf, idsL]), (bAnd (eT (by omega)) (bAnd (eT (by omega)) rfl)), (bAnd (eT (by omega)) (bAnd (eT (by omega)) rfl)), ex16_50, (bAnd (eT (by omega)) (bAnd (eT (by omega)) rfl)), rfl, trivial⟩

end Go.Proofs.Ytlhmionefjopiaa
