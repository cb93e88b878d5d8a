/- parolelaw37.OddsRefuses, walked -/
import Derived.Test.YtlhmionefjopiaaOdRat
import Derived.Test.YtlhmionefjopiaaOdEx
import Derived.Test.YtlhmionefjopiaaProg
set_option linter.unusedVariables false
set_option linter.unusedSimpArgs false
namespace Go.Proofs.Ytlhmionefjopiaa
open Go.RowKit
set_option maxRecDepth 100000

structure An where
  kind : Int
  right : Int
  wrong : Int
def q0 : An := ⟨0, 0, 0⟩
def encQ (x : An) : AV := .agg [.int .i64 x.kind, .int .i64 x.right, .int .i64 x.wrong]
def lrnE (k : Int) : Int := if k < 1 then 1 else if k > 14 then 1 else 0
def lrnL (k : Int) : List An := if k < 1 then [] else if k > 14 then [] else [⟨k, 1, 0⟩]
def lr2E (far : Int) : Int := if far % 2 = 0 then 2 else 0
def lr2L (far : Int) : List An := if far % 2 = 0 then [] else [⟨5, 1073741824, 0⟩]
def losE (c : Int) : Int := if c < 0 then 1 else if c > 1073741824 then 1 else 0
def losN (c : Int) : Int := if c < 0 then 0 else if c > 1073741824 then 0 else c / (Int.gcd c 2 : Int)
def losD (c : Int) : Int := if c < 0 then 0 else if c > 1073741824 then 0 else 2 / (Int.gcd c 2 : Int)
theorem orf32_3 {k : Int} (hk : -9223372036854775808 ≤ k ∧ k ≤ 9223372036854775807) (q1 : k < 1) : FnF Try.prog 32 true [.nilslice, .int .i64 k, .bool true] (.tuple [.nilslice, .int .i64 1]) :=
  fn_evF (by kernel_rfl) Try.func32 (by kernel_rfl) 400
      [.d, .d, .d, .v (.bool true), .d, .d, .d, .d, .d, .d, .d]
      (by kernel_rfl) (ob := [(.bool (decide (k < 1)) : AV) = (.bool true : AV),
        (.nilslice : AV) = (.nilslice : AV),
        (1 : Int) = 1]) (by kernel_rfl)
      ⟨(bT q1), rfl, rfl, trivial⟩

theorem orf32_4 {k : Int} (hk : -9223372036854775808 ≤ k ∧ k ≤ 9223372036854775807) (q1 : ¬ (k < 1)) (q2 : k > 14) : FnF Try.prog 32 true [.nilslice, .int .i64 k, .bool true] (.tuple [.nilslice, .int .i64 1]) :=
  fn_evF (by kernel_rfl) Try.func32 (by kernel_rfl) 400
      [.d, .d, .d, .v (.bool false), .d, .d, .v (.bool true), .d, .d, .d, .d]
      (by kernel_rfl) (ob := [(.bool (decide (k < 1)) : AV) = (.bool false : AV),
        (.bool (decide (k > 14)) : AV) = (.bool true : AV),
        (.nilslice : AV) = (.nilslice : AV),
        (1 : Int) = 1]) (by kernel_rfl)
      ⟨(bF q1), (bT q2), rfl, rfl, trivial⟩

theorem orf43_5 {k : Int} (hk : -9223372036854775808 ≤ k ∧ k ≤ 9223372036854775807) (q1 : ¬ (k < 1)) (q2 : ¬ (k > 14)) : FnM Try.prog 43 [] [.nilslice, .list [.agg [.int .i64 k, .int .i64 1, .int .i64 0]], .func (.func 44) [] [], .func (.func 42) [] []] (.slice 0 0 1 0) [.row 3 [.agg [.int .i64 k, .int .i64 1, .int .i64 0]] 0] :=
  fn_ev (by kernel_rfl) Try.func43 (by kernel_rfl) 400
      [.d, .d, .d, .d, .d, .v (.int .i64 1), .v (.int .i64 1), .d, .d, .d, .v (.int .i64 1), .d, .d, .d, .d, .d, .d, .d, .d, .d, .d, .d, .d, .d, .d, .d, .d, .d, .d, .d, .d, .d, .d, .d, .d, .d, .d, .d, .d, .d, .d, .d, .d, .d, .d, .d, .d, .d, .d, .d, .d, .d, .d, .d, .d, .d, .d, .d, .d, .d, .d, .d, .d, .v (.int .i64 0), .v (.int .i64 0), .d, .d, .d, .d]
      [1] rfl (r := .slice 0 0 1 0) (R := [.row 3 [.agg [.int .i64 k, .int .i64 1, .int .i64 0]] 0]) (ob := [(.int .i64 (([.agg [.int .i64 k, .int .i64 1, .int .i64 0]] : List AV).length : Int) : AV) = (.int .i64 1 : AV),
        (.int .i64 (IntKind.wrap .i64 (0 + 1)) : AV) = (.int .i64 1 : AV),
        (.int .i64 (([.agg [.int .i64 k, .int .i64 1, .int .i64 0]] : List AV).length : Int) : AV) = (.int .i64 1 : AV),
        0 ≤ (0 : Int),
        (2 * ([.agg [.int .i64 k, .int .i64 1, .int .i64 0]] : List AV).length + 1024) * 24 ≤ 2 ^ 48,
        ∀ y ∈ ([.agg [.int .i64 k, .int .i64 1, .int .i64 0]] : List AV), (cellsOf y).length = 3 ∧ ∀ c ∈ cellsOf y, isCell c = true,
        0 ≤ (1 : Int) ∧ (1 : Int) ≤ ((([.agg [.int .i64 k, .int .i64 1, .int .i64 0]] : List AV)).length : Int) ∧ ((([.agg [.int .i64 k, .int .i64 1, .int .i64 0]] : List AV)).length : Int) ≤ ((([.agg [.int .i64 k, .int .i64 1, .int .i64 0]] : List AV) : List AV).length : Int),
        ∀ x ∈ (([.agg [.int .i64 k, .int .i64 1, .int .i64 0]] : List AV) : List AV), (cellsOf x).length = 3,
        (.int .i64 (([] : List AV).length : Int) : AV) = (.int .i64 0 : AV),
        (.int .i64 (IntKind.wrap .i64 (0 + 0)) : AV) = (.int .i64 0 : AV),
        ∀ e ∈ ([.agg [.int .i64 k, .int .i64 1, .int .i64 0]] : List AV), idsOf e = []]) (by kernel_rfl)
      ⟨rfl, rfl, rfl, (by decide), (by simp), (by simp [cellsOf, isCell]), (by first | (simp; done) | omega | (simp; omega)), (by simp [cellsOf]), rfl, rfl, (by simp [idsOf, idsL]), trivial⟩

theorem orf11_6 {k : Int} (hk : -9223372036854775808 ≤ k ∧ k ≤ 9223372036854775807) (q1 : ¬ (k < 1)) (q2 : ¬ (k > 14)) : FnF Try.prog 11 true [.list [.agg [.int .i64 k, .int .i64 1, .int .i64 0]]] (.int .i64 0) :=
  fn_evF (by kernel_rfl) Try.func11 (by kernel_rfl) 400
      [.d, .d, .v (.int .i64 1), .d, .d, .d, .d, .d, .d, .d, .d, .d, .d, .d, .v (.bool false), .d, .d, .d, .v (.bool false), .d, .d, .d, .d, .d, .d, .d, .d, .d, .d, .d, .d, .d, .d, .d, .d, .d, .d, .d, .d, .d, .d, .d, .d, .d, .d, .d, .d, .d, .d, .d, .d, .d, .v (.int .i64 1), .d, .d, .d, .d]
      (by kernel_rfl) (ob := [(.int .i64 (([.agg [.int .i64 k, .int .i64 1, .int .i64 0]] : List AV).length : Int) : AV) = (.int .i64 1 : AV),
        0 ≤ (0 : Int),
        (.bool (decide (k < 1)) : AV) = (.bool false : AV),
        (.bool (decide (k > 14)) : AV) = (.bool false : AV),
        (.int .i64 (IntKind.wrap .i64 (0 + 1)) : AV) = (.int .i64 1 : AV),
        (0 : Int) = 0]) (by kernel_rfl)
      ⟨rfl, (by decide), (bF q1), (bF q2), rfl, rfl, trivial⟩

theorem orf28_7 {k : Int} (hk : -9223372036854775808 ≤ k ∧ k ≤ 9223372036854775807) (q1 : ¬ (k < 1)) (q2 : ¬ (k > 14)) : FnM Try.prog 28 [] [.nilslice, .list [.agg [.int .i64 k, .int .i64 1, .int .i64 0]]] (.tuple [.slice 0 0 1 0, .int .i64 0]) [.row 3 [.agg [.int .i64 k, .int .i64 1, .int .i64 0]] 0] :=
  fn_ev (by kernel_rfl) Try.func28 (by kernel_rfl) 400
      [.d, .d, .d, .d, .d, .d, .c (.slice 0 0 1 0) [.row 3 [.agg [.int .i64 k, .int .i64 1, .int .i64 0]] 0], .d, .d, .f true (.int .i64 0), .d, .d, .d, .d, .d]
      [0] rfl (r := .tuple [.slice 0 0 1 0, .int .i64 0]) (R := [.row 3 [.agg [.int .i64 k, .int .i64 1, .int .i64 0]] 0]) (ob := [FnM Try.prog 43 [] [.nilslice, .list [.agg [.int .i64 k, .int .i64 1, .int .i64 0]], .func (.func 44) [] [], .func (.func 42) [] []] (.slice 0 0 1 0) [.row 3 [.agg [.int .i64 k, .int .i64 1, .int .i64 0]] 0],
        FnF Try.prog 11 true [.list [.agg [.int .i64 k, .int .i64 1, .int .i64 0]]] (.int .i64 0),
        ∀ e ∈ ([.agg [.int .i64 k, .int .i64 1, .int .i64 0]] : List AV), idsOf e = [],
        ∀ e ∈ ([.agg [.int .i64 k, .int .i64 1, .int .i64 0]] : List AV), idsOf e = []]) (by kernel_rfl)
      ⟨(orf43_5 hk q1 q2), (orf11_6 hk q1 q2), (by simp [idsOf, idsL]), (by simp [idsOf, idsL]), trivial⟩

theorem orf32_8 {k : Int} (hk : -9223372036854775808 ≤ k ∧ k ≤ 9223372036854775807) (q1 : ¬ (k < 1)) (q2 : ¬ (k > 14)) : FnM Try.prog 32 [] [.nilslice, .int .i64 k, .bool true] (.tuple [.slice 0 0 1 0, .int .i64 0]) [.row 3 [.agg [.int .i64 k, .int .i64 1, .int .i64 0]] 0] :=
  fn_ev (by kernel_rfl) Try.func32 (by kernel_rfl) 400
      [.d, .d, .d, .v (.bool false), .d, .d, .v (.bool false), .d, .d, .d, .d, .d, .d, .d, .d, .d, .d, .v (.int .i64 1), .d, .d, .d, .d, .d, .c (.tuple [.slice 0 0 1 0, .int .i64 0]) [.row 3 [.agg [.int .i64 k, .int .i64 1, .int .i64 0]] 0], .d, .d, .d, .d]
      [2] rfl (r := .tuple [.slice 0 0 1 0, .int .i64 0]) (R := [.row 3 [.agg [.int .i64 k, .int .i64 1, .int .i64 0]] 0]) (ob := [(.bool (decide (k < 1)) : AV) = (.bool false : AV),
        (.bool (decide (k > 14)) : AV) = (.bool false : AV),
        (.int .i64 (IntKind.wrap .i64 (0 + 1)) : AV) = (.int .i64 1 : AV),
        FnM Try.prog 28 [] [.nilslice, .list [.agg [.int .i64 k, .int .i64 1, .int .i64 0]]] (.tuple [.slice 0 0 1 0, .int .i64 0]) [.row 3 [.agg [.int .i64 k, .int .i64 1, .int .i64 0]] 0],
        plainV (.tuple [.slice 0 0 1 0, .int .i64 0]) = true,
        ∀ x ∈ ([.row 3 [.agg [.int .i64 k, .int .i64 1, .int .i64 0]] 0] : List Blk), PlainB x,
        ∀ e ∈ ([.agg [.int .i64 k, .int .i64 1, .int .i64 0]] : List AV), idsOf e = [],
        ∀ e ∈ ([.agg [.int .i64 k, .int .i64 1, .int .i64 0]] : List AV), idsOf e = []]) (by kernel_rfl)
      ⟨(bF q1), (bF q2), rfl, (orf28_7 hk q1 q2), rfl, (by simp [PlainB, plainV, plainL]), (by simp [idsOf, idsL]), (by simp [idsOf, idsL]), trivial⟩

theorem orf_l1 {k : Int} (hk : -9223372036854775808 ≤ k ∧ k ≤ 9223372036854775807) : FnF Try.prog 20 true [.nilslice, .int .i64 k, .bool true] (.agg [.list ((lrnL k).map encQ), .int .i64 (lrnE k)]) := by
  by_cases q1 : k < 1
  · exact fn_evF (by kernel_rfl) Try.func20 (by kernel_rfl) 400 [.d, .d, .d, .d, .f true (.tuple [.nilslice, .int .i64 1]), .d, .d, .d, .d, .d, .d, .d, .d, .d] (by kernel_rfl) (ob := [FnF Try.prog 32 true [.nilslice, .int .i64 k, .bool true] (.tuple [.nilslice, .int .i64 1]), [] = ((lrnL k).map encQ : List AV), (1 : Int) = lrnE k]) (by kernel_rfl) ⟨(orf32_3 hk q1), (by simp [lrnL, lrnE, encQ, *]), (by simp [lrnL, lrnE, encQ, *]), trivial⟩
  · by_cases q2 : k > 14
    · exact fn_evF (by kernel_rfl) Try.func20 (by kernel_rfl) 400 [.d, .d, .d, .d, .f true (.tuple [.nilslice, .int .i64 1]), .d, .d, .d, .d, .d, .d, .d, .d, .d] (by kernel_rfl) (ob := [FnF Try.prog 32 true [.nilslice, .int .i64 k, .bool true] (.tuple [.nilslice, .int .i64 1]), [] = ((lrnL k).map encQ : List AV), (1 : Int) = lrnE k]) (by kernel_rfl) ⟨(orf32_4 hk q1 q2), (by simp [lrnL, lrnE, encQ, *]), (by simp [lrnL, lrnE, encQ, *]), trivial⟩
    · exact fn_evF (by kernel_rfl) Try.func20 (by kernel_rfl) 400 [.d, .d, .d, .d, .c (.tuple [.slice 0 0 1 0, .int .i64 0]) [.row 3 [.agg [.int .i64 k, .int .i64 1, .int .i64 0]] 0], .d, .d, .d, .d, .d, .d, .d, .d, .d] (by kernel_rfl) (ob := [FnM Try.prog 32 [] [.nilslice, .int .i64 k, .bool true] (.tuple [.slice 0 0 1 0, .int .i64 0]) [.row 3 [.agg [.int .i64 k, .int .i64 1, .int .i64 0]] 0], (([.agg [.int .i64 k, .int .i64 1, .int .i64 0]] : List AV).drop 0).take 1 = (lrnL k).map encQ, ∀ e ∈ ([.agg [.int .i64 k, .int .i64 1, .int .i64 0]] : List AV), plainE e, (0 : Int) = lrnE k]) (by kernel_rfl) ⟨(orf32_8 hk q1 q2), (by simp [lrnL, lrnE, encQ, *]), (by simp [plainE, idsOf, idsL, plainV, plainL]), (by simp [lrnL, lrnE, encQ, *]), trivial⟩

theorem orf44_9 {far : Int} (hf : 0 ≤ far ∧ far ≤ 255) : FnF Try.prog 44 true [.agg [.int .i64 5, .int .i64 (1073741824 - (far % 2)), .int .i64 0]] (.int .i64 5) :=
  fn_evF (by kernel_rfl) Try.func44 (by kernel_rfl) 400
      [.d, .d, .d, .d, .d]
      (by kernel_rfl) (ob := [(5 : Int) = 5]) (by kernel_rfl)
      ⟨rfl, trivial⟩

theorem orf44_10   : FnF Try.prog 44 true [.agg [.int .i64 5, .int .i64 1, .int .i64 0]] (.int .i64 5) :=
  fn_evF (by kernel_rfl) Try.func44 (by kernel_rfl) 400
      [.d, .d, .d, .d, .d]
      (by kernel_rfl) (ob := [(5 : Int) = 5]) (by kernel_rfl)
      ⟨rfl, trivial⟩

theorem orf42_11 {far : Int} (hf : 0 ≤ far ∧ far ≤ 255) : FnF Try.prog 42 true [.agg [.int .i64 5, .int .i64 (1073741824 - (far % 2)), .int .i64 0], .agg [.int .i64 5, .int .i64 1, .int .i64 0]] (.agg [.int .i64 5, .int .i64 ((1073741824 - (far % 2)) + 1), .int .i64 0]) :=
  fn_evF (by kernel_rfl) Try.func42 (by kernel_rfl) 400
      [.d, .d, .d, .d, .d, .d, .d, .d, .d, .v (.int .i64 ((1073741824 - (far % 2)) + 1)), .d, .d, .d, .d, .v (.int .i64 0), .d, .d]
      (by kernel_rfl) (ob := [(.int .i64 (IntKind.wrap .i64 ((1073741824 - (far % 2)) + 1)) : AV) = (.int .i64 ((1073741824 - (far % 2)) + 1) : AV),
        (.int .i64 (IntKind.wrap .i64 (0 + 0)) : AV) = (.int .i64 0 : AV),
        (5 : Int) = 5,
        ((1073741824 - (far % 2)) + 1 : Int) = (1073741824 - (far % 2)) + 1,
        (0 : Int) = 0]) (by kernel_rfl)
      ⟨iW (w64 (by omega) (by omega)), rfl, rfl, rfl, rfl, trivial⟩

theorem orf43_12 {far : Int} (hf : 0 ≤ far ∧ far ≤ 255) : FnM Try.prog 43 [] [.list [.agg [.int .i64 5, .int .i64 (1073741824 - (far % 2)), .int .i64 0]], .list [.agg [.int .i64 5, .int .i64 1, .int .i64 0]], .func (.func 44) [] [], .func (.func 42) [] []] (.slice 0 0 1 0) [.row 3 [.agg [.int .i64 5, .int .i64 ((1073741824 - (far % 2)) + 1), .int .i64 0]] 0] :=
  fn_ev (by kernel_rfl) Try.func43 (by kernel_rfl) 400
      [.d, .d, .d, .v (.int .i64 1), .d, .v (.int .i64 1), .v (.int .i64 2), .d, .d, .d, .v (.int .i64 1), .d, .d, .d, .v (.int .i64 1), .d, .d, .d, .d, .d, .d, .f true (.int .i64 5), .d, .d, .d, .d, .f true (.int .i64 5), .d, .d, .d, .d, .d, .d, .v (.int .i64 1), .d, .d, .d, .d, .d, .d, .f true (.int .i64 5), .d, .d, .d, .d, .f true (.int .i64 5), .d, .d, .d, .d, .d, .d, .d, .d, .d, .d, .d, .d, .f true (.agg [.int .i64 5, .int .i64 ((1073741824 - (far % 2)) + 1), .int .i64 0]), .d, .d, .d, .d, .d, .d, .d, .d, .d, .d, .v (.int .i64 0), .d, .v (.int .i64 0), .v (.int .i64 0), .d, .d, .d, .d]
      [1] rfl (r := .slice 0 0 1 0) (R := [.row 3 [.agg [.int .i64 5, .int .i64 ((1073741824 - (far % 2)) + 1), .int .i64 0]] 0]) (ob := [(.int .i64 (([.agg [.int .i64 5, .int .i64 (1073741824 - (far % 2)), .int .i64 0]] : List AV).length : Int) : AV) = (.int .i64 1 : AV),
        (.int .i64 (([.agg [.int .i64 5, .int .i64 1, .int .i64 0]] : List AV).length : Int) : AV) = (.int .i64 1 : AV),
        (.int .i64 (IntKind.wrap .i64 (1 + 1)) : AV) = (.int .i64 2 : AV),
        (.int .i64 (([.agg [.int .i64 5, .int .i64 1, .int .i64 0]] : List AV).length : Int) : AV) = (.int .i64 1 : AV),
        (.int .i64 (([.agg [.int .i64 5, .int .i64 (1073741824 - (far % 2)), .int .i64 0]] : List AV).length : Int) : AV) = (.int .i64 1 : AV),
        0 ≤ (0 : Int),
        FnF Try.prog 44 true [.agg [.int .i64 5, .int .i64 (1073741824 - (far % 2)), .int .i64 0]] (.int .i64 5),
        0 ≤ (0 : Int),
        FnF Try.prog 44 true [.agg [.int .i64 5, .int .i64 1, .int .i64 0]] (.int .i64 5),
        (.int .i64 (([.agg [.int .i64 5, .int .i64 (1073741824 - (far % 2)), .int .i64 0]] : List AV).length : Int) : AV) = (.int .i64 1 : AV),
        0 ≤ (0 : Int),
        FnF Try.prog 44 true [.agg [.int .i64 5, .int .i64 1, .int .i64 0]] (.int .i64 5),
        0 ≤ (0 : Int),
        FnF Try.prog 44 true [.agg [.int .i64 5, .int .i64 (1073741824 - (far % 2)), .int .i64 0]] (.int .i64 5),
        0 ≤ (0 : Int),
        0 ≤ (0 : Int),
        FnF Try.prog 42 true [.agg [.int .i64 5, .int .i64 (1073741824 - (far % 2)), .int .i64 0], .agg [.int .i64 5, .int .i64 1, .int .i64 0]] (.agg [.int .i64 5, .int .i64 ((1073741824 - (far % 2)) + 1), .int .i64 0]),
        (2 * ([.agg [.int .i64 5, .int .i64 ((1073741824 - (far % 2)) + 1), .int .i64 0]] : List AV).length + 1024) * 24 ≤ 2 ^ 48,
        ∀ y ∈ ([.agg [.int .i64 5, .int .i64 ((1073741824 - (far % 2)) + 1), .int .i64 0]] : List AV), (cellsOf y).length = 3 ∧ ∀ c ∈ cellsOf y, isCell c = true,
        0 ≤ (1 : Int) ∧ (1 : Int) ≤ ((([.agg [.int .i64 5, .int .i64 (1073741824 - (far % 2)), .int .i64 0]] : List AV)).length : Int) ∧ ((([.agg [.int .i64 5, .int .i64 (1073741824 - (far % 2)), .int .i64 0]] : List AV)).length : Int) ≤ ((([.agg [.int .i64 5, .int .i64 (1073741824 - (far % 2)), .int .i64 0]] : List AV) : List AV).length : Int),
        ∀ x ∈ (([.agg [.int .i64 5, .int .i64 (1073741824 - (far % 2)), .int .i64 0]] : List AV) : List AV), (cellsOf x).length = 3,
        0 ≤ (1 : Int) ∧ (1 : Int) ≤ ((([.agg [.int .i64 5, .int .i64 1, .int .i64 0]] : List AV)).length : Int) ∧ ((([.agg [.int .i64 5, .int .i64 1, .int .i64 0]] : List AV)).length : Int) ≤ ((([.agg [.int .i64 5, .int .i64 1, .int .i64 0]] : List AV) : List AV).length : Int),
        ∀ x ∈ (([.agg [.int .i64 5, .int .i64 1, .int .i64 0]] : List AV) : List AV), (cellsOf x).length = 3,
        (.int .i64 (([] : List AV).length : Int) : AV) = (.int .i64 0 : AV),
        (.int .i64 (([] : List AV).length : Int) : AV) = (.int .i64 0 : AV),
        (.int .i64 (IntKind.wrap .i64 (0 + 0)) : AV) = (.int .i64 0 : AV),
        ∀ e ∈ ([.agg [.int .i64 5, .int .i64 ((1073741824 - (far % 2)) + 1), .int .i64 0]] : List AV), idsOf e = []]) (by kernel_rfl)
      ⟨rfl, rfl, rfl, rfl, rfl, (by decide), (orf44_9 hf), (by decide), orf44_10, rfl, (by decide), orf44_10, (by decide), (orf44_9 hf), (by decide), (by decide), (orf42_11 hf), (by simp), (by simp [cellsOf, isCell]), (by first | (simp; done) | omega | (simp; omega)), (by simp [cellsOf]), (by first | (simp; done) | omega | (simp; omega)), (by simp [cellsOf]), rfl, rfl, rfl, (by simp [idsOf, idsL]), trivial⟩

theorem orf11_13 {far : Int} (hf : 0 ≤ far ∧ far ≤ 255) (q1 : (min ((1073741824 - (far % 2)) + 1) 0) < 0) : FnF Try.prog 11 true [.list [.agg [.int .i64 5, .int .i64 ((1073741824 - (far % 2)) + 1), .int .i64 0]]] (.int .i64 1) :=
  fn_evF (by kernel_rfl) Try.func11 (by kernel_rfl) 400
      [.d, .d, .v (.int .i64 1), .d, .d, .d, .d, .d, .d, .d, .d, .d, .d, .d, .d, .d, .d, .d, .d, .d, .d, .d, .d, .d, .d, .d, .v (.bool true), .d, .d, .d, .d, .d, .d, .d, .d, .d, .d, .d, .d, .d, .d, .d, .d, .d, .d, .d, .d, .d, .d, .d, .d, .d, .d]
      (by kernel_rfl) (ob := [(.int .i64 (([.agg [.int .i64 5, .int .i64 ((1073741824 - (far % 2)) + 1), .int .i64 0]] : List AV).length : Int) : AV) = (.int .i64 1 : AV),
        0 ≤ (0 : Int),
        (.bool (decide ((min ((1073741824 - (far % 2)) + 1) 0) < 0)) : AV) = (.bool true : AV),
        (1 : Int) = 1]) (by kernel_rfl)
      ⟨rfl, (by decide), (bT q1), rfl, trivial⟩

theorem orf28_14 {far : Int} (hf : 0 ≤ far ∧ far ≤ 255) (q1 : (min ((1073741824 - (far % 2)) + 1) 0) < 0) : FnF Try.prog 28 true [.list [.agg [.int .i64 5, .int .i64 (1073741824 - (far % 2)), .int .i64 0]], .list [.agg [.int .i64 5, .int .i64 1, .int .i64 0]]] (.tuple [.nilslice, .int .i64 2]) :=
  fn_evF (by kernel_rfl) Try.func28 (by kernel_rfl) 400
      [.d, .d, .d, .d, .d, .d, .c (.slice 0 0 1 0) [.row 3 [.agg [.int .i64 5, .int .i64 ((1073741824 - (far % 2)) + 1), .int .i64 0]] 0], .d, .d, .f true (.int .i64 1), .d, .d, .d, .d]
      (by kernel_rfl) (ob := [FnM Try.prog 43 [] [.list [.agg [.int .i64 5, .int .i64 (1073741824 - (far % 2)), .int .i64 0]], .list [.agg [.int .i64 5, .int .i64 1, .int .i64 0]], .func (.func 44) [] [], .func (.func 42) [] []] (.slice 0 0 1 0) [.row 3 [.agg [.int .i64 5, .int .i64 ((1073741824 - (far % 2)) + 1), .int .i64 0]] 0],
        FnF Try.prog 11 true [.list [.agg [.int .i64 5, .int .i64 ((1073741824 - (far % 2)) + 1), .int .i64 0]]] (.int .i64 1),
        ∀ e ∈ ([.agg [.int .i64 5, .int .i64 ((1073741824 - (far % 2)) + 1), .int .i64 0]] : List AV), idsOf e = [],
        (.nilslice : AV) = (.nilslice : AV),
        (2 : Int) = 2]) (by kernel_rfl)
      ⟨(orf43_12 hf), (orf11_13 hf q1), (by simp [idsOf, idsL]), rfl, rfl, trivial⟩

theorem orf32_15 {far : Int} (hf : 0 ≤ far ∧ far ≤ 255) (q1 : (min ((1073741824 - (far % 2)) + 1) 0) < 0) : FnF Try.prog 32 true [.list [.agg [.int .i64 5, .int .i64 (1073741824 - (far % 2)), .int .i64 0]], .int .i64 5, .bool true] (.tuple [.nilslice, .int .i64 2]) :=
  fn_evF (by kernel_rfl) Try.func32 (by kernel_rfl) 400
      [.d, .d, .d, .d, .d, .d, .d, .d, .d, .d, .d, .d, .d, .d, .d, .d, .d, .v (.int .i64 1), .d, .d, .d, .d, .d, .f true (.tuple [.nilslice, .int .i64 2]), .d, .d, .d, .d]
      (by kernel_rfl) (ob := [(.int .i64 (IntKind.wrap .i64 (0 + 1)) : AV) = (.int .i64 1 : AV),
        FnF Try.prog 28 true [.list [.agg [.int .i64 5, .int .i64 (1073741824 - (far % 2)), .int .i64 0]], .list [.agg [.int .i64 5, .int .i64 1, .int .i64 0]]] (.tuple [.nilslice, .int .i64 2]),
        ∀ e ∈ ([.agg [.int .i64 5, .int .i64 1, .int .i64 0]] : List AV), idsOf e = [],
        (.nilslice : AV) = (.nilslice : AV),
        (2 : Int) = 2]) (by kernel_rfl)
      ⟨rfl, (orf28_14 hf q1), (by simp [idsOf, idsL]), rfl, rfl, trivial⟩

theorem orf11_16 {far : Int} (hf : 0 ≤ far ∧ far ≤ 255) (q1 : ¬ ((min ((1073741824 - (far % 2)) + 1) 0) < 0)) (q2 : (max ((1073741824 - (far % 2)) + 1) 0) > 1073741824) : FnF Try.prog 11 true [.list [.agg [.int .i64 5, .int .i64 ((1073741824 - (far % 2)) + 1), .int .i64 0]]] (.int .i64 1) :=
  fn_evF (by kernel_rfl) Try.func11 (by kernel_rfl) 400
      [.d, .d, .v (.int .i64 1), .d, .d, .d, .d, .d, .d, .d, .d, .d, .d, .d, .d, .d, .d, .d, .d, .d, .d, .d, .d, .d, .d, .d, .v (.bool false), .d, .d, .d, .d, .d, .d, .d, .v (.bool true), .d, .d, .d, .d, .d, .d, .d, .d, .d, .d, .d, .d, .d, .d, .d, .d, .d, .d]
      (by kernel_rfl) (ob := [(.int .i64 (([.agg [.int .i64 5, .int .i64 ((1073741824 - (far % 2)) + 1), .int .i64 0]] : List AV).length : Int) : AV) = (.int .i64 1 : AV),
        0 ≤ (0 : Int),
        (.bool (decide ((min ((1073741824 - (far % 2)) + 1) 0) < 0)) : AV) = (.bool false : AV),
        (.bool (decide ((max ((1073741824 - (far % 2)) + 1) 0) > 1073741824)) : AV) = (.bool true : AV),
        (1 : Int) = 1]) (by kernel_rfl)
      ⟨rfl, (by decide), (bF q1), (bT q2), rfl, trivial⟩

theorem orf28_17 {far : Int} (hf : 0 ≤ far ∧ far ≤ 255) (q1 : ¬ ((min ((1073741824 - (far % 2)) + 1) 0) < 0)) (q2 : (max ((1073741824 - (far % 2)) + 1) 0) > 1073741824) : FnF Try.prog 28 true [.list [.agg [.int .i64 5, .int .i64 (1073741824 - (far % 2)), .int .i64 0]], .list [.agg [.int .i64 5, .int .i64 1, .int .i64 0]]] (.tuple [.nilslice, .int .i64 2]) :=
  fn_evF (by kernel_rfl) Try.func28 (by kernel_rfl) 400
      [.d, .d, .d, .d, .d, .d, .c (.slice 0 0 1 0) [.row 3 [.agg [.int .i64 5, .int .i64 ((1073741824 - (far % 2)) + 1), .int .i64 0]] 0], .d, .d, .f true (.int .i64 1), .d, .d, .d, .d]
      (by kernel_rfl) (ob := [FnM Try.prog 43 [] [.list [.agg [.int .i64 5, .int .i64 (1073741824 - (far % 2)), .int .i64 0]], .list [.agg [.int .i64 5, .int .i64 1, .int .i64 0]], .func (.func 44) [] [], .func (.func 42) [] []] (.slice 0 0 1 0) [.row 3 [.agg [.int .i64 5, .int .i64 ((1073741824 - (far % 2)) + 1), .int .i64 0]] 0],
        FnF Try.prog 11 true [.list [.agg [.int .i64 5, .int .i64 ((1073741824 - (far % 2)) + 1), .int .i64 0]]] (.int .i64 1),
        ∀ e ∈ ([.agg [.int .i64 5, .int .i64 ((1073741824 - (far % 2)) + 1), .int .i64 0]] : List AV), idsOf e = [],
        (.nilslice : AV) = (.nilslice : AV),
        (2 : Int) = 2]) (by kernel_rfl)
      ⟨(orf43_12 hf), (orf11_16 hf q1 q2), (by simp [idsOf, idsL]), rfl, rfl, trivial⟩

theorem orf32_18 {far : Int} (hf : 0 ≤ far ∧ far ≤ 255) (q1 : ¬ ((min ((1073741824 - (far % 2)) + 1) 0) < 0)) (q2 : (max ((1073741824 - (far % 2)) + 1) 0) > 1073741824) : FnF Try.prog 32 true [.list [.agg [.int .i64 5, .int .i64 (1073741824 - (far % 2)), .int .i64 0]], .int .i64 5, .bool true] (.tuple [.nilslice, .int .i64 2]) :=
  fn_evF (by kernel_rfl) Try.func32 (by kernel_rfl) 400
      [.d, .d, .d, .d, .d, .d, .d, .d, .d, .d, .d, .d, .d, .d, .d, .d, .d, .v (.int .i64 1), .d, .d, .d, .d, .d, .f true (.tuple [.nilslice, .int .i64 2]), .d, .d, .d, .d]
      (by kernel_rfl) (ob := [(.int .i64 (IntKind.wrap .i64 (0 + 1)) : AV) = (.int .i64 1 : AV),
        FnF Try.prog 28 true [.list [.agg [.int .i64 5, .int .i64 (1073741824 - (far % 2)), .int .i64 0]], .list [.agg [.int .i64 5, .int .i64 1, .int .i64 0]]] (.tuple [.nilslice, .int .i64 2]),
        ∀ e ∈ ([.agg [.int .i64 5, .int .i64 1, .int .i64 0]] : List AV), idsOf e = [],
        (.nilslice : AV) = (.nilslice : AV),
        (2 : Int) = 2]) (by kernel_rfl)
      ⟨rfl, (orf28_17 hf q1 q2), (by simp [idsOf, idsL]), rfl, rfl, trivial⟩

theorem orf11_19 {far : Int} (hf : 0 ≤ far ∧ far ≤ 255) (q1 : ¬ ((min ((1073741824 - (far % 2)) + 1) 0) < 0)) (q2 : ¬ ((max ((1073741824 - (far % 2)) + 1) 0) > 1073741824)) : FnF Try.prog 11 true [.list [.agg [.int .i64 5, .int .i64 ((1073741824 - (far % 2)) + 1), .int .i64 0]]] (.int .i64 0) :=
  fn_evF (by kernel_rfl) Try.func11 (by kernel_rfl) 400
      [.d, .d, .v (.int .i64 1), .d, .d, .d, .d, .d, .d, .d, .d, .d, .d, .d, .d, .d, .d, .d, .d, .d, .d, .d, .d, .d, .d, .d, .v (.bool false), .d, .d, .d, .d, .d, .d, .d, .v (.bool false), .d, .d, .d, .d, .d, .d, .d, .d, .d, .d, .d, .d, .d, .d, .d, .d, .d, .v (.int .i64 1), .d, .d, .d, .d]
      (by kernel_rfl) (ob := [(.int .i64 (([.agg [.int .i64 5, .int .i64 ((1073741824 - (far % 2)) + 1), .int .i64 0]] : List AV).length : Int) : AV) = (.int .i64 1 : AV),
        0 ≤ (0 : Int),
        (.bool (decide ((min ((1073741824 - (far % 2)) + 1) 0) < 0)) : AV) = (.bool false : AV),
        (.bool (decide ((max ((1073741824 - (far % 2)) + 1) 0) > 1073741824)) : AV) = (.bool false : AV),
        (.int .i64 (IntKind.wrap .i64 (0 + 1)) : AV) = (.int .i64 1 : AV),
        (0 : Int) = 0]) (by kernel_rfl)
      ⟨rfl, (by decide), (bF q1), (bF q2), rfl, rfl, trivial⟩

theorem orf28_20 {far : Int} (hf : 0 ≤ far ∧ far ≤ 255) (q1 : ¬ ((min ((1073741824 - (far % 2)) + 1) 0) < 0)) (q2 : ¬ ((max ((1073741824 - (far % 2)) + 1) 0) > 1073741824)) : FnM Try.prog 28 [] [.list [.agg [.int .i64 5, .int .i64 (1073741824 - (far % 2)), .int .i64 0]], .list [.agg [.int .i64 5, .int .i64 1, .int .i64 0]]] (.tuple [.slice 0 0 1 0, .int .i64 0]) [.row 3 [.agg [.int .i64 5, .int .i64 ((1073741824 - (far % 2)) + 1), .int .i64 0]] 0] :=
  fn_ev (by kernel_rfl) Try.func28 (by kernel_rfl) 400
      [.d, .d, .d, .d, .d, .d, .c (.slice 0 0 1 0) [.row 3 [.agg [.int .i64 5, .int .i64 ((1073741824 - (far % 2)) + 1), .int .i64 0]] 0], .d, .d, .f true (.int .i64 0), .d, .d, .d, .d, .d]
      [0] rfl (r := .tuple [.slice 0 0 1 0, .int .i64 0]) (R := [.row 3 [.agg [.int .i64 5, .int .i64 ((1073741824 - (far % 2)) + 1), .int .i64 0]] 0]) (ob := [FnM Try.prog 43 [] [.list [.agg [.int .i64 5, .int .i64 (1073741824 - (far % 2)), .int .i64 0]], .list [.agg [.int .i64 5, .int .i64 1, .int .i64 0]], .func (.func 44) [] [], .func (.func 42) [] []] (.slice 0 0 1 0) [.row 3 [.agg [.int .i64 5, .int .i64 ((1073741824 - (far % 2)) + 1), .int .i64 0]] 0],
        FnF Try.prog 11 true [.list [.agg [.int .i64 5, .int .i64 ((1073741824 - (far % 2)) + 1), .int .i64 0]]] (.int .i64 0),
        ∀ e ∈ ([.agg [.int .i64 5, .int .i64 ((1073741824 - (far % 2)) + 1), .int .i64 0]] : List AV), idsOf e = [],
        ∀ e ∈ ([.agg [.int .i64 5, .int .i64 ((1073741824 - (far % 2)) + 1), .int .i64 0]] : List AV), idsOf e = []]) (by kernel_rfl)
      ⟨(orf43_12 hf), (orf11_19 hf q1 q2), (by simp [idsOf, idsL]), (by simp [idsOf, idsL]), trivial⟩

theorem orf32_21 {far : Int} (hf : 0 ≤ far ∧ far ≤ 255) (q1 : ¬ ((min ((1073741824 - (far % 2)) + 1) 0) < 0)) (q2 : ¬ ((max ((1073741824 - (far % 2)) + 1) 0) > 1073741824)) : FnM Try.prog 32 [] [.list [.agg [.int .i64 5, .int .i64 (1073741824 - (far % 2)), .int .i64 0]], .int .i64 5, .bool true] (.tuple [.slice 0 0 1 0, .int .i64 0]) [.row 3 [.agg [.int .i64 5, .int .i64 ((1073741824 - (far % 2)) + 1), .int .i64 0]] 0] :=
  fn_ev (by kernel_rfl) Try.func32 (by kernel_rfl) 400
      [.d, .d, .d, .d, .d, .d, .d, .d, .d, .d, .d, .d, .d, .d, .d, .d, .d, .v (.int .i64 1), .d, .d, .d, .d, .d, .c (.tuple [.slice 0 0 1 0, .int .i64 0]) [.row 3 [.agg [.int .i64 5, .int .i64 ((1073741824 - (far % 2)) + 1), .int .i64 0]] 0], .d, .d, .d, .d]
      [2] rfl (r := .tuple [.slice 0 0 1 0, .int .i64 0]) (R := [.row 3 [.agg [.int .i64 5, .int .i64 ((1073741824 - (far % 2)) + 1), .int .i64 0]] 0]) (ob := [(.int .i64 (IntKind.wrap .i64 (0 + 1)) : AV) = (.int .i64 1 : AV),
        FnM Try.prog 28 [] [.list [.agg [.int .i64 5, .int .i64 (1073741824 - (far % 2)), .int .i64 0]], .list [.agg [.int .i64 5, .int .i64 1, .int .i64 0]]] (.tuple [.slice 0 0 1 0, .int .i64 0]) [.row 3 [.agg [.int .i64 5, .int .i64 ((1073741824 - (far % 2)) + 1), .int .i64 0]] 0],
        plainV (.tuple [.slice 0 0 1 0, .int .i64 0]) = true,
        ∀ x ∈ ([.row 3 [.agg [.int .i64 5, .int .i64 ((1073741824 - (far % 2)) + 1), .int .i64 0]] 0] : List Blk), PlainB x,
        ∀ e ∈ ([.agg [.int .i64 5, .int .i64 1, .int .i64 0]] : List AV), idsOf e = [],
        ∀ e ∈ ([.agg [.int .i64 5, .int .i64 ((1073741824 - (far % 2)) + 1), .int .i64 0]] : List AV), idsOf e = []]) (by kernel_rfl)
      ⟨rfl, (orf28_20 hf q1 q2), rfl, (by simp [PlainB, plainV, plainL]), (by simp [idsOf, idsL]), (by simp [idsOf, idsL]), trivial⟩

theorem orf_l2 {far : Int} (hf : 0 ≤ far ∧ far ≤ 255) : FnF Try.prog 20 true [.list [.agg [.int .i64 5, .int .i64 (1073741824 - (far % 2)), .int .i64 0]], .int .i64 5, .bool true] (.agg [.list ((lr2L far).map encQ), .int .i64 (lr2E far)]) := by
  by_cases q1 : (min ((1073741824 - (far % 2)) + 1) 0) < 0
  · exact fn_evF (by kernel_rfl) Try.func20 (by kernel_rfl) 400 [.d, .d, .d, .d, .f true (.tuple [.nilslice, .int .i64 2]), .d, .d, .d, .d, .d, .d, .d, .d, .d] (by kernel_rfl) (ob := [FnF Try.prog 32 true [.list [.agg [.int .i64 5, .int .i64 (1073741824 - (far % 2)), .int .i64 0]], .int .i64 5, .bool true] (.tuple [.nilslice, .int .i64 2]), [] = ((lr2L far).map encQ : List AV), (2 : Int) = lr2E far]) (by kernel_rfl) ⟨(orf32_15 hf q1), (by first | (unfold lr2E; split <;> omega) | (unfold lr2L; split <;> first | (exfalso; omega) | rfl | (simp [encQ]; omega))), (by first | (unfold lr2E; split <;> omega) | (unfold lr2L; split <;> first | (exfalso; omega) | rfl | (simp [encQ]; omega))), trivial⟩
  · by_cases q2 : (max ((1073741824 - (far % 2)) + 1) 0) > 1073741824
    · exact fn_evF (by kernel_rfl) Try.func20 (by kernel_rfl) 400 [.d, .d, .d, .d, .f true (.tuple [.nilslice, .int .i64 2]), .d, .d, .d, .d, .d, .d, .d, .d, .d] (by kernel_rfl) (ob := [FnF Try.prog 32 true [.list [.agg [.int .i64 5, .int .i64 (1073741824 - (far % 2)), .int .i64 0]], .int .i64 5, .bool true] (.tuple [.nilslice, .int .i64 2]), [] = ((lr2L far).map encQ : List AV), (2 : Int) = lr2E far]) (by kernel_rfl) ⟨(orf32_18 hf q1 q2), (by first | (unfold lr2E; split <;> omega) | (unfold lr2L; split <;> first | (exfalso; omega) | rfl | (simp [encQ]; omega))), (by first | (unfold lr2E; split <;> omega) | (unfold lr2L; split <;> first | (exfalso; omega) | rfl | (simp [encQ]; omega))), trivial⟩
    · exact fn_evF (by kernel_rfl) Try.func20 (by kernel_rfl) 400 [.d, .d, .d, .d, .c (.tuple [.slice 0 0 1 0, .int .i64 0]) [.row 3 [.agg [.int .i64 5, .int .i64 ((1073741824 - (far % 2)) + 1), .int .i64 0]] 0], .d, .d, .d, .d, .d, .d, .d, .d, .d] (by kernel_rfl) (ob := [FnM Try.prog 32 [] [.list [.agg [.int .i64 5, .int .i64 (1073741824 - (far % 2)), .int .i64 0]], .int .i64 5, .bool true] (.tuple [.slice 0 0 1 0, .int .i64 0]) [.row 3 [.agg [.int .i64 5, .int .i64 ((1073741824 - (far % 2)) + 1), .int .i64 0]] 0], (([.agg [.int .i64 5, .int .i64 ((1073741824 - (far % 2)) + 1), .int .i64 0]] : List AV).drop 0).take 1 = (lr2L far).map encQ, ∀ e ∈ ([.agg [.int .i64 5, .int .i64 ((1073741824 - (far % 2)) + 1), .int .i64 0]] : List AV), plainE e, (0 : Int) = lr2E far]) (by kernel_rfl) ⟨(orf32_21 hf q1 q2), (by first | (unfold lr2E; split <;> omega) | (unfold lr2L; split <;> first | (exfalso; omega) | rfl | (simp [encQ]; omega))), (by simp [plainE, idsOf, idsL, plainV, plainL]), (by first | (unfold lr2E; split <;> omega) | (unfold lr2L; split <;> first | (exfalso; omega) | rfl | (simp [encQ]; omega))), trivial⟩

theorem orf42_22 {far : Int} (hf : 0 ≤ far ∧ far ≤ 255) : FnF Try.prog 42 true [.agg [.int .i64 5, .int .i64 (1073741824 - (far % 2)), .int .i64 0], .agg [.int .i64 5, .int .i64 (1073741824 - (far % 2)), .int .i64 0]] (.agg [.int .i64 5, .int .i64 ((1073741824 - (far % 2)) + (1073741824 - (far % 2))), .int .i64 0]) :=
  fn_evF (by kernel_rfl) Try.func42 (by kernel_rfl) 400
      [.d, .d, .d, .d, .d, .d, .d, .d, .d, .v (.int .i64 ((1073741824 - (far % 2)) + (1073741824 - (far % 2)))), .d, .d, .d, .d, .v (.int .i64 0), .d, .d]
      (by kernel_rfl) (ob := [(.int .i64 (IntKind.wrap .i64 ((1073741824 - (far % 2)) + (1073741824 - (far % 2)))) : AV) = (.int .i64 ((1073741824 - (far % 2)) + (1073741824 - (far % 2))) : AV),
        (.int .i64 (IntKind.wrap .i64 (0 + 0)) : AV) = (.int .i64 0 : AV),
        (5 : Int) = 5,
        ((1073741824 - (far % 2)) + (1073741824 - (far % 2)) : Int) = (1073741824 - (far % 2)) + (1073741824 - (far % 2)),
        (0 : Int) = 0]) (by kernel_rfl)
      ⟨iW (w64 (by omega) (by omega)), rfl, rfl, rfl, rfl, trivial⟩

theorem orf43_23 {far : Int} (hf : 0 ≤ far ∧ far ≤ 255) : FnM Try.prog 43 [] [.list [.agg [.int .i64 5, .int .i64 (1073741824 - (far % 2)), .int .i64 0]], .list [.agg [.int .i64 5, .int .i64 (1073741824 - (far % 2)), .int .i64 0]], .func (.func 44) [] [], .func (.func 42) [] []] (.slice 0 0 1 0) [.row 3 [.agg [.int .i64 5, .int .i64 ((1073741824 - (far % 2)) + (1073741824 - (far % 2))), .int .i64 0]] 0] :=
  fn_ev (by kernel_rfl) Try.func43 (by kernel_rfl) 400
      [.d, .d, .d, .v (.int .i64 1), .d, .v (.int .i64 1), .v (.int .i64 2), .d, .d, .d, .v (.int .i64 1), .d, .d, .d, .v (.int .i64 1), .d, .d, .d, .d, .d, .d, .f true (.int .i64 5), .d, .d, .d, .d, .f true (.int .i64 5), .d, .d, .d, .d, .d, .d, .v (.int .i64 1), .d, .d, .d, .d, .d, .d, .f true (.int .i64 5), .d, .d, .d, .d, .f true (.int .i64 5), .d, .d, .d, .d, .d, .d, .d, .d, .d, .d, .d, .d, .f true (.agg [.int .i64 5, .int .i64 ((1073741824 - (far % 2)) + (1073741824 - (far % 2))), .int .i64 0]), .d, .d, .d, .d, .d, .d, .d, .d, .d, .d, .v (.int .i64 0), .d, .v (.int .i64 0), .v (.int .i64 0), .d, .d, .d, .d]
      [1] rfl (r := .slice 0 0 1 0) (R := [.row 3 [.agg [.int .i64 5, .int .i64 ((1073741824 - (far % 2)) + (1073741824 - (far % 2))), .int .i64 0]] 0]) (ob := [(.int .i64 (([.agg [.int .i64 5, .int .i64 (1073741824 - (far % 2)), .int .i64 0]] : List AV).length : Int) : AV) = (.int .i64 1 : AV),
        (.int .i64 (([.agg [.int .i64 5, .int .i64 (1073741824 - (far % 2)), .int .i64 0]] : List AV).length : Int) : AV) = (.int .i64 1 : AV),
        (.int .i64 (IntKind.wrap .i64 (1 + 1)) : AV) = (.int .i64 2 : AV),
        (.int .i64 (([.agg [.int .i64 5, .int .i64 (1073741824 - (far % 2)), .int .i64 0]] : List AV).length : Int) : AV) = (.int .i64 1 : AV),
        (.int .i64 (([.agg [.int .i64 5, .int .i64 (1073741824 - (far % 2)), .int .i64 0]] : List AV).length : Int) : AV) = (.int .i64 1 : AV),
        0 ≤ (0 : Int),
        FnF Try.prog 44 true [.agg [.int .i64 5, .int .i64 (1073741824 - (far % 2)), .int .i64 0]] (.int .i64 5),
        0 ≤ (0 : Int),
        FnF Try.prog 44 true [.agg [.int .i64 5, .int .i64 (1073741824 - (far % 2)), .int .i64 0]] (.int .i64 5),
        (.int .i64 (([.agg [.int .i64 5, .int .i64 (1073741824 - (far % 2)), .int .i64 0]] : List AV).length : Int) : AV) = (.int .i64 1 : AV),
        0 ≤ (0 : Int),
        FnF Try.prog 44 true [.agg [.int .i64 5, .int .i64 (1073741824 - (far % 2)), .int .i64 0]] (.int .i64 5),
        0 ≤ (0 : Int),
        FnF Try.prog 44 true [.agg [.int .i64 5, .int .i64 (1073741824 - (far % 2)), .int .i64 0]] (.int .i64 5),
        0 ≤ (0 : Int),
        0 ≤ (0 : Int),
        FnF Try.prog 42 true [.agg [.int .i64 5, .int .i64 (1073741824 - (far % 2)), .int .i64 0], .agg [.int .i64 5, .int .i64 (1073741824 - (far % 2)), .int .i64 0]] (.agg [.int .i64 5, .int .i64 ((1073741824 - (far % 2)) + (1073741824 - (far % 2))), .int .i64 0]),
        (2 * ([.agg [.int .i64 5, .int .i64 ((1073741824 - (far % 2)) + (1073741824 - (far % 2))), .int .i64 0]] : List AV).length + 1024) * 24 ≤ 2 ^ 48,
        ∀ y ∈ ([.agg [.int .i64 5, .int .i64 ((1073741824 - (far % 2)) + (1073741824 - (far % 2))), .int .i64 0]] : List AV), (cellsOf y).length = 3 ∧ ∀ c ∈ cellsOf y, isCell c = true,
        0 ≤ (1 : Int) ∧ (1 : Int) ≤ ((([.agg [.int .i64 5, .int .i64 (1073741824 - (far % 2)), .int .i64 0]] : List AV)).length : Int) ∧ ((([.agg [.int .i64 5, .int .i64 (1073741824 - (far % 2)), .int .i64 0]] : List AV)).length : Int) ≤ ((([.agg [.int .i64 5, .int .i64 (1073741824 - (far % 2)), .int .i64 0]] : List AV) : List AV).length : Int),
        ∀ x ∈ (([.agg [.int .i64 5, .int .i64 (1073741824 - (far % 2)), .int .i64 0]] : List AV) : List AV), (cellsOf x).length = 3,
        0 ≤ (1 : Int) ∧ (1 : Int) ≤ ((([.agg [.int .i64 5, .int .i64 (1073741824 - (far % 2)), .int .i64 0]] : List AV)).length : Int) ∧ ((([.agg [.int .i64 5, .int .i64 (1073741824 - (far % 2)), .int .i64 0]] : List AV)).length : Int) ≤ ((([.agg [.int .i64 5, .int .i64 (1073741824 - (far % 2)), .int .i64 0]] : List AV) : List AV).length : Int),
        ∀ x ∈ (([.agg [.int .i64 5, .int .i64 (1073741824 - (far % 2)), .int .i64 0]] : List AV) : List AV), (cellsOf x).length = 3,
        (.int .i64 (([] : List AV).length : Int) : AV) = (.int .i64 0 : AV),
        (.int .i64 (([] : List AV).length : Int) : AV) = (.int .i64 0 : AV),
        (.int .i64 (IntKind.wrap .i64 (0 + 0)) : AV) = (.int .i64 0 : AV),
        ∀ e ∈ ([.agg [.int .i64 5, .int .i64 ((1073741824 - (far % 2)) + (1073741824 - (far % 2))), .int .i64 0]] : List AV), idsOf e = []]) (by kernel_rfl)
      ⟨rfl, rfl, rfl, rfl, rfl, (by decide), (orf44_9 hf), (by decide), (orf44_9 hf), rfl, (by decide), (orf44_9 hf), (by decide), (orf44_9 hf), (by decide), (by decide), (orf42_22 hf), (by simp), (by simp [cellsOf, isCell]), (by first | (simp; done) | omega | (simp; omega)), (by simp [cellsOf]), (by first | (simp; done) | omega | (simp; omega)), (by simp [cellsOf]), rfl, rfl, rfl, (by simp [idsOf, idsL]), trivial⟩

theorem orf11_24 {far : Int} (hf : 0 ≤ far ∧ far ≤ 255) (q1 : (min ((1073741824 - (far % 2)) + (1073741824 - (far % 2))) 0) < 0) : FnF Try.prog 11 true [.list [.agg [.int .i64 5, .int .i64 ((1073741824 - (far % 2)) + (1073741824 - (far % 2))), .int .i64 0]]] (.int .i64 1) :=
  fn_evF (by kernel_rfl) Try.func11 (by kernel_rfl) 400
      [.d, .d, .v (.int .i64 1), .d, .d, .d, .d, .d, .d, .d, .d, .d, .d, .d, .d, .d, .d, .d, .d, .d, .d, .d, .d, .d, .d, .d, .v (.bool true), .d, .d, .d, .d, .d, .d, .d, .d, .d, .d, .d, .d, .d, .d, .d, .d, .d, .d, .d, .d, .d, .d, .d, .d, .d, .d]
      (by kernel_rfl) (ob := [(.int .i64 (([.agg [.int .i64 5, .int .i64 ((1073741824 - (far % 2)) + (1073741824 - (far % 2))), .int .i64 0]] : List AV).length : Int) : AV) = (.int .i64 1 : AV),
        0 ≤ (0 : Int),
        (.bool (decide ((min ((1073741824 - (far % 2)) + (1073741824 - (far % 2))) 0) < 0)) : AV) = (.bool true : AV),
        (1 : Int) = 1]) (by kernel_rfl)
      ⟨rfl, (by decide), (bT q1), rfl, trivial⟩

theorem orf28_25 {far : Int} (hf : 0 ≤ far ∧ far ≤ 255) (q1 : (min ((1073741824 - (far % 2)) + (1073741824 - (far % 2))) 0) < 0) : FnF Try.prog 28 true [.list [.agg [.int .i64 5, .int .i64 (1073741824 - (far % 2)), .int .i64 0]], .list [.agg [.int .i64 5, .int .i64 (1073741824 - (far % 2)), .int .i64 0]]] (.tuple [.nilslice, .int .i64 2]) :=
  fn_evF (by kernel_rfl) Try.func28 (by kernel_rfl) 400
      [.d, .d, .d, .d, .d, .d, .c (.slice 0 0 1 0) [.row 3 [.agg [.int .i64 5, .int .i64 ((1073741824 - (far % 2)) + (1073741824 - (far % 2))), .int .i64 0]] 0], .d, .d, .f true (.int .i64 1), .d, .d, .d, .d]
      (by kernel_rfl) (ob := [FnM Try.prog 43 [] [.list [.agg [.int .i64 5, .int .i64 (1073741824 - (far % 2)), .int .i64 0]], .list [.agg [.int .i64 5, .int .i64 (1073741824 - (far % 2)), .int .i64 0]], .func (.func 44) [] [], .func (.func 42) [] []] (.slice 0 0 1 0) [.row 3 [.agg [.int .i64 5, .int .i64 ((1073741824 - (far % 2)) + (1073741824 - (far % 2))), .int .i64 0]] 0],
        FnF Try.prog 11 true [.list [.agg [.int .i64 5, .int .i64 ((1073741824 - (far % 2)) + (1073741824 - (far % 2))), .int .i64 0]]] (.int .i64 1),
        ∀ e ∈ ([.agg [.int .i64 5, .int .i64 ((1073741824 - (far % 2)) + (1073741824 - (far % 2))), .int .i64 0]] : List AV), idsOf e = [],
        (.nilslice : AV) = (.nilslice : AV),
        (2 : Int) = 2]) (by kernel_rfl)
      ⟨(orf43_23 hf), (orf11_24 hf q1), (by simp [idsOf, idsL]), rfl, rfl, trivial⟩

theorem orf11_26 {far : Int} (hf : 0 ≤ far ∧ far ≤ 255) (q1 : ¬ ((min ((1073741824 - (far % 2)) + (1073741824 - (far % 2))) 0) < 0)) : FnF Try.prog 11 true [.list [.agg [.int .i64 5, .int .i64 ((1073741824 - (far % 2)) + (1073741824 - (far % 2))), .int .i64 0]]] (.int .i64 1) :=
  fn_evF (by kernel_rfl) Try.func11 (by kernel_rfl) 400
      [.d, .d, .v (.int .i64 1), .d, .d, .d, .d, .d, .d, .d, .d, .d, .d, .d, .d, .d, .d, .d, .d, .d, .d, .d, .d, .d, .d, .d, .v (.bool false), .d, .d, .d, .d, .d, .d, .d, .v (.bool true), .d, .d, .d, .d, .d, .d, .d, .d, .d, .d, .d, .d, .d, .d, .d, .d, .d, .d]
      (by kernel_rfl) (ob := [(.int .i64 (([.agg [.int .i64 5, .int .i64 ((1073741824 - (far % 2)) + (1073741824 - (far % 2))), .int .i64 0]] : List AV).length : Int) : AV) = (.int .i64 1 : AV),
        0 ≤ (0 : Int),
        (.bool (decide ((min ((1073741824 - (far % 2)) + (1073741824 - (far % 2))) 0) < 0)) : AV) = (.bool false : AV),
        (.bool (decide ((max ((1073741824 - (far % 2)) + (1073741824 - (far % 2))) 0) > 1073741824)) : AV) = (.bool true : AV),
        (1 : Int) = 1]) (by kernel_rfl)
      ⟨rfl, (by decide), (bF q1), (bT (by omega)), rfl, trivial⟩

theorem orf28_27 {far : Int} (hf : 0 ≤ far ∧ far ≤ 255) (q1 : ¬ ((min ((1073741824 - (far % 2)) + (1073741824 - (far % 2))) 0) < 0)) : FnF Try.prog 28 true [.list [.agg [.int .i64 5, .int .i64 (1073741824 - (far % 2)), .int .i64 0]], .list [.agg [.int .i64 5, .int .i64 (1073741824 - (far % 2)), .int .i64 0]]] (.tuple [.nilslice, .int .i64 2]) :=
  fn_evF (by kernel_rfl) Try.func28 (by kernel_rfl) 400
      [.d, .d, .d, .d, .d, .d, .c (.slice 0 0 1 0) [.row 3 [.agg [.int .i64 5, .int .i64 ((1073741824 - (far % 2)) + (1073741824 - (far % 2))), .int .i64 0]] 0], .d, .d, .f true (.int .i64 1), .d, .d, .d, .d]
      (by kernel_rfl) (ob := [FnM Try.prog 43 [] [.list [.agg [.int .i64 5, .int .i64 (1073741824 - (far % 2)), .int .i64 0]], .list [.agg [.int .i64 5, .int .i64 (1073741824 - (far % 2)), .int .i64 0]], .func (.func 44) [] [], .func (.func 42) [] []] (.slice 0 0 1 0) [.row 3 [.agg [.int .i64 5, .int .i64 ((1073741824 - (far % 2)) + (1073741824 - (far % 2))), .int .i64 0]] 0],
        FnF Try.prog 11 true [.list [.agg [.int .i64 5, .int .i64 ((1073741824 - (far % 2)) + (1073741824 - (far % 2))), .int .i64 0]]] (.int .i64 1),
        ∀ e ∈ ([.agg [.int .i64 5, .int .i64 ((1073741824 - (far % 2)) + (1073741824 - (far % 2))), .int .i64 0]] : List AV), idsOf e = [],
        (.nilslice : AV) = (.nilslice : AV),
        (2 : Int) = 2]) (by kernel_rfl)
      ⟨(orf43_23 hf), (orf11_26 hf q1), (by simp [idsOf, idsL]), rfl, rfl, trivial⟩

theorem orf_j {far : Int} (hf : 0 ≤ far ∧ far ≤ 255) : FnF Try.prog 14 true [.list [.agg [.int .i64 5, .int .i64 (1073741824 - (far % 2)), .int .i64 0]], .list [.agg [.int .i64 5, .int .i64 (1073741824 - (far % 2)), .int .i64 0]]] (.agg [.list (([] : List An).map encQ), .int .i64 2]) := by
  by_cases q1 : (min ((1073741824 - (far % 2)) + (1073741824 - (far % 2))) 0) < 0
  · exact fn_evF (by kernel_rfl) Try.func14 (by kernel_rfl) 400 [.d, .d, .d, .f true (.tuple [.nilslice, .int .i64 2]), .d, .d, .d, .d, .d, .d, .d, .d, .d] (by kernel_rfl) (ob := [FnF Try.prog 28 true [.list [.agg [.int .i64 5, .int .i64 (1073741824 - (far % 2)), .int .i64 0]], .list [.agg [.int .i64 5, .int .i64 (1073741824 - (far % 2)), .int .i64 0]]] (.tuple [.nilslice, .int .i64 2]), [] = (([] : List An).map encQ : List AV), (2 : Int) = 2]) (by kernel_rfl) ⟨(orf28_25 hf q1), rfl, rfl, trivial⟩
  · exact fn_evF (by kernel_rfl) Try.func14 (by kernel_rfl) 400 [.d, .d, .d, .f true (.tuple [.nilslice, .int .i64 2]), .d, .d, .d, .d, .d, .d, .d, .d, .d] (by kernel_rfl) (ob := [FnF Try.prog 28 true [.list [.agg [.int .i64 5, .int .i64 (1073741824 - (far % 2)), .int .i64 0]], .list [.agg [.int .i64 5, .int .i64 (1073741824 - (far % 2)), .int .i64 0]]] (.tuple [.nilslice, .int .i64 2]), [] = (([] : List An).map encQ : List AV), (2 : Int) = 2]) (by kernel_rfl) ⟨(orf28_27 hf q1), rfl, rfl, trivial⟩

theorem orf30_28 {cost : Int} (hc : -9223372036854775808 ≤ cost ∧ cost ≤ 9223372036854775807) (q1 : cost < 0) : FnF Try.prog 30 true [.nilslice, .int .i64 3, .int .i64 cost] (.tuple [.agg [.int .i64 0, .int .i64 0], .int .i64 1]) :=
  fn_evF (by kernel_rfl) Try.func30 (by kernel_rfl) 400
      [.d, .d, .d, .v (.bool true), .d, .d, .d, .d, .d, .d, .d, .d]
      (by kernel_rfl) (ob := [(.bool (decide (cost < 0)) : AV) = (.bool true : AV),
        (0 : Int) = 0,
        (0 : Int) = 0,
        (1 : Int) = 1]) (by kernel_rfl)
      ⟨(bT q1), rfl, rfl, rfl, trivial⟩

theorem orf30_29 {cost : Int} (hc : -9223372036854775808 ≤ cost ∧ cost ≤ 9223372036854775807) (q1 : ¬ (cost < 0)) (q2 : cost > 1073741824) : FnF Try.prog 30 true [.nilslice, .int .i64 3, .int .i64 cost] (.tuple [.agg [.int .i64 0, .int .i64 0], .int .i64 1]) :=
  fn_evF (by kernel_rfl) Try.func30 (by kernel_rfl) 400
      [.d, .d, .d, .v (.bool false), .d, .d, .v (.bool true), .d, .d, .d, .d, .d]
      (by kernel_rfl) (ob := [(.bool (decide (cost < 0)) : AV) = (.bool false : AV),
        (.bool (decide (cost > 1073741824)) : AV) = (.bool true : AV),
        (0 : Int) = 0,
        (0 : Int) = 0,
        (1 : Int) = 1]) (by kernel_rfl)
      ⟨(bF q1), (bT q2), rfl, rfl, rfl, trivial⟩

theorem orf57_30   : FnF Try.prog 57 true [.nilslice, .int .i64 3, .func (.func 58) [.nilslice] []] (.tuple [.int .i64 0, .bool false]) :=
  fn_evF (by kernel_rfl) Try.func57 (by kernel_rfl) 400
      [.d, .d, .d, .d, .d, .d, .d, .d, .d, .d, .d, .d, .d, .d, .d, .d, .d, .d, .d, .d, .d, .d, .d, .d, .d, .d, .d, .d]
      (by kernel_rfl) (ob := [(0 : Int) = 0,
        (false : Bool) = false]) (by kernel_rfl)
      ⟨rfl, rfl, trivial⟩

theorem orf45_31   : FnF Try.prog 45 true [.nilslice, .int .i64 3] (.agg [.int .i64 3, .int .i64 0, .int .i64 0]) :=
  fn_evF (by kernel_rfl) Try.func45 (by kernel_rfl) 400
      [.d, .d, .d, .d, .d, .f true (.tuple [.int .i64 0, .bool false]), .d, .d, .d, .d, .d, .d, .d, .d, .d, .d, .d]
      (by kernel_rfl) (ob := [FnF Try.prog 57 true [.nilslice, .int .i64 3, .func (.func 58) [.nilslice] []] (.tuple [.int .i64 0, .bool false]),
        (3 : Int) = 3,
        (0 : Int) = 0,
        (0 : Int) = 0]) (by kernel_rfl)
      ⟨orf57_30, rfl, rfl, rfl, trivial⟩

theorem orf30_32 {cost : Int} (hc : -9223372036854775808 ≤ cost ∧ cost ≤ 9223372036854775807) (q1 : ¬ (cost < 0)) (q2 : ¬ (cost > 1073741824)) : FnF Try.prog 30 true [.nilslice, .int .i64 3, .int .i64 cost] (.tuple [.agg [.int .i64 (cost / (Int.gcd cost 2 : Int)), .int .i64 (2 / (Int.gcd cost 2 : Int))], .int .i64 0]) :=
  fn_evF (by kernel_rfl) Try.func30 (by kernel_rfl) 400
      [.d, .d, .d, .v (.bool false), .d, .d, .v (.bool false), .d, .d, .d, .d, .f true (.agg [.int .i64 3, .int .i64 0, .int .i64 0]), .d, .d, .d, .d, .v (.int .i64 1), .d, .v (.int .i64 cost), .d, .d, .d, .d, .v (.int .i64 0), .v (.int .i64 2), .f true (.tuple [.agg [.int .i64 (cost / (Int.gcd cost 2 : Int)), .int .i64 (2 / (Int.gcd cost 2 : Int))], .int .i64 0]), .d, .d, .d, .d]
      (by kernel_rfl) (ob := [(.bool (decide (cost < 0)) : AV) = (.bool false : AV),
        (.bool (decide (cost > 1073741824)) : AV) = (.bool false : AV),
        FnF Try.prog 45 true [.nilslice, .int .i64 3] (.agg [.int .i64 3, .int .i64 0, .int .i64 0]),
        (.int .i64 (IntKind.wrap .i64 (0 + 1)) : AV) = (.int .i64 1 : AV),
        (.int .i64 (IntKind.wrap .i64 (1 * cost)) : AV) = (.int .i64 cost : AV),
        (.int .i64 (IntKind.wrap .i64 (0 + 0)) : AV) = (.int .i64 0 : AV),
        (.int .i64 (IntKind.wrap .i64 (0 + 2)) : AV) = (.int .i64 2 : AV),
        FnF Try.prog 46 true [.int .i64 cost, .int .i64 2] (.tuple [.agg [.int .i64 (cost / (Int.gcd cost 2 : Int)), .int .i64 (2 / (Int.gcd cost 2 : Int))], .int .i64 0]),
        (cost / (Int.gcd cost 2 : Int) : Int) = cost / (Int.gcd cost 2 : Int),
        (2 / (Int.gcd cost 2 : Int) : Int) = 2 / (Int.gcd cost 2 : Int),
        (0 : Int) = 0]) (by kernel_rfl)
      ⟨(bF q1), (bF q2), orf45_31, rfl, iW ((w64 (by omega) (by omega)).trans (by omega)), rfl, rfl, od_new (by omega) (by omega) (by omega) (by omega), rfl, rfl, rfl, trivial⟩

theorem orf_s {cost : Int} (hc : -9223372036854775808 ≤ cost ∧ cost ≤ 9223372036854775807) : FnF Try.prog 18 true [.nilslice, .int .i64 3, .int .i64 cost] (.agg [.int .i64 (losN cost), .int .i64 (losD cost), .int .i64 (losE cost)]) := by
  by_cases q1 : cost < 0
  · exact fn_evF (by kernel_rfl) Try.func18 (by kernel_rfl) 400 [.d, .d, .d, .d, .f true (.tuple [.agg [.int .i64 0, .int .i64 0], .int .i64 1]), .d, .d, .d, .d, .d, .d, .d, .d, .d, .d] (by kernel_rfl) (ob := [FnF Try.prog 30 true [.nilslice, .int .i64 3, .int .i64 cost] (.tuple [.agg [.int .i64 0, .int .i64 0], .int .i64 1]), (0 : Int) = losN cost, (0 : Int) = losD cost, (1 : Int) = losE cost]) (by kernel_rfl) ⟨(orf30_28 hc q1), (by simp [losN, losD, losE, *]), (by simp [losN, losD, losE, *]), (by simp [losN, losD, losE, *]), trivial⟩
  · by_cases q2 : cost > 1073741824
    · exact fn_evF (by kernel_rfl) Try.func18 (by kernel_rfl) 400 [.d, .d, .d, .d, .f true (.tuple [.agg [.int .i64 0, .int .i64 0], .int .i64 1]), .d, .d, .d, .d, .d, .d, .d, .d, .d, .d] (by kernel_rfl) (ob := [FnF Try.prog 30 true [.nilslice, .int .i64 3, .int .i64 cost] (.tuple [.agg [.int .i64 0, .int .i64 0], .int .i64 1]), (0 : Int) = losN cost, (0 : Int) = losD cost, (1 : Int) = losE cost]) (by kernel_rfl) ⟨(orf30_29 hc q1 q2), (by simp [losN, losD, losE, *]), (by simp [losN, losD, losE, *]), (by simp [losN, losD, losE, *]), trivial⟩
    · exact fn_evF (by kernel_rfl) Try.func18 (by kernel_rfl) 400 [.d, .d, .d, .d, .f true (.tuple [.agg [.int .i64 (cost / (Int.gcd cost 2 : Int)), .int .i64 (2 / (Int.gcd cost 2 : Int))], .int .i64 0]), .d, .d, .d, .d, .d, .d, .d, .d, .d, .d] (by kernel_rfl) (ob := [FnF Try.prog 30 true [.nilslice, .int .i64 3, .int .i64 cost] (.tuple [.agg [.int .i64 (cost / (Int.gcd cost 2 : Int)), .int .i64 (2 / (Int.gcd cost 2 : Int))], .int .i64 0]), (cost / (Int.gcd cost 2 : Int) : Int) = losN cost, (2 / (Int.gcd cost 2 : Int) : Int) = losD cost, (0 : Int) = losE cost]) (by kernel_rfl) ⟨(orf30_32 hc q1 q2), (by simp [losN, losD, losE, *]), (by simp [losN, losD, losE, *]), (by simp [losN, losD, losE, *]), trivial⟩

theorem orf11_33   : FnF Try.prog 11 true [.list [.agg [.int .i64 5, .int .i64 0, .int .i64 0], .agg [.int .i64 5, .int .i64 0, .int .i64 0]]] (.int .i64 1) :=
  fn_evF (by kernel_rfl) Try.func11 (by kernel_rfl) 400
      [.d, .d, .v (.int .i64 2), .d, .d, .d, .d, .d, .d, .d, .d, .d, .d, .d, .d, .d, .d, .d, .d, .d, .d, .d, .d, .d, .d, .d, .d, .d, .d, .d, .d, .d, .d, .d, .d, .d, .d, .d, .d, .d, .d, .d, .d, .d, .d, .d, .d, .d, .d, .d, .d, .d, .v (.int .i64 1), .d, .d, .d, .d, .d, .d, .d, .d, .d, .d, .d, .d, .d, .d, .d, .d, .d, .d, .d, .d, .d, .d, .d, .d, .d, .d, .d, .d, .d, .d, .d, .d, .d, .d, .d, .d, .d, .d, .d, .v (.int .i64 0), .d, .d, .d, .d, .d, .d, .d, .d, .d, .d]
      (by kernel_rfl) (ob := [(.int .i64 (([.agg [.int .i64 5, .int .i64 0, .int .i64 0], .agg [.int .i64 5, .int .i64 0, .int .i64 0]] : List AV).length : Int) : AV) = (.int .i64 2 : AV),
        0 ≤ (0 : Int),
        (.int .i64 (IntKind.wrap .i64 (0 + 1)) : AV) = (.int .i64 1 : AV),
        0 ≤ (1 : Int),
        (.int .i64 (IntKind.wrap .i64 (1 - 1)) : AV) = (.int .i64 0 : AV),
        0 ≤ (0 : Int),
        (1 : Int) = 1]) (by kernel_rfl)
      ⟨rfl, (by decide), rfl, (by decide), rfl, (by decide), rfl, trivial⟩

theorem orf11_34   : FnF Try.prog 11 true [.list [.agg [.int .i64 6, .int .i64 0, .int .i64 0], .agg [.int .i64 5, .int .i64 0, .int .i64 0]]] (.int .i64 1) :=
  fn_evF (by kernel_rfl) Try.func11 (by kernel_rfl) 400
      [.d, .d, .v (.int .i64 2), .d, .d, .d, .d, .d, .d, .d, .d, .d, .d, .d, .d, .d, .d, .d, .d, .d, .d, .d, .d, .d, .d, .d, .d, .d, .d, .d, .d, .d, .d, .d, .d, .d, .d, .d, .d, .d, .d, .d, .d, .d, .d, .d, .d, .d, .d, .d, .d, .d, .v (.int .i64 1), .d, .d, .d, .d, .d, .d, .d, .d, .d, .d, .d, .d, .d, .d, .d, .d, .d, .d, .d, .d, .d, .d, .d, .d, .d, .d, .d, .d, .d, .d, .d, .d, .d, .d, .d, .d, .d, .d, .d, .v (.int .i64 0), .d, .d, .d, .d, .d, .d, .d, .d, .d, .d]
      (by kernel_rfl) (ob := [(.int .i64 (([.agg [.int .i64 6, .int .i64 0, .int .i64 0], .agg [.int .i64 5, .int .i64 0, .int .i64 0]] : List AV).length : Int) : AV) = (.int .i64 2 : AV),
        0 ≤ (0 : Int),
        (.int .i64 (IntKind.wrap .i64 (0 + 1)) : AV) = (.int .i64 1 : AV),
        0 ≤ (1 : Int),
        (.int .i64 (IntKind.wrap .i64 (1 - 1)) : AV) = (.int .i64 0 : AV),
        0 ≤ (0 : Int),
        (1 : Int) = 1]) (by kernel_rfl)
      ⟨rfl, (by decide), rfl, (by decide), rfl, (by decide), rfl, trivial⟩

theorem orf11_35   : FnF Try.prog 11 true [.list [.agg [.int .i64 5, .int .i64 (-1), .int .i64 0]]] (.int .i64 1) :=
  fn_evF (by kernel_rfl) Try.func11 (by kernel_rfl) 400
      [.d, .d, .v (.int .i64 1), .d, .d, .d, .d, .d, .d, .d, .d, .d, .d, .d, .d, .d, .d, .d, .d, .d, .d, .d, .d, .d, .d, .d, .d, .d, .d, .d, .d, .d, .d, .d, .d, .d, .d, .d, .d, .d, .d, .d, .d, .d, .d, .d, .d, .d, .d, .d, .d, .d, .d]
      (by kernel_rfl) (ob := [(.int .i64 (([.agg [.int .i64 5, .int .i64 (-1), .int .i64 0]] : List AV).length : Int) : AV) = (.int .i64 1 : AV),
        0 ≤ (0 : Int),
        (1 : Int) = 1]) (by kernel_rfl)
      ⟨rfl, (by decide), rfl, trivial⟩

theorem orf11_36   : FnF Try.prog 11 true [.list [.agg [.int .i64 5, .int .i64 0, .int .i64 1073741825]]] (.int .i64 1) :=
  fn_evF (by kernel_rfl) Try.func11 (by kernel_rfl) 400
      [.d, .d, .v (.int .i64 1), .d, .d, .d, .d, .d, .d, .d, .d, .d, .d, .d, .d, .d, .d, .d, .d, .d, .d, .d, .d, .d, .d, .d, .d, .d, .d, .d, .d, .d, .d, .d, .d, .d, .d, .d, .d, .d, .d, .d, .d, .d, .d, .d, .d, .d, .d, .d, .d, .d, .d]
      (by kernel_rfl) (ob := [(.int .i64 (([.agg [.int .i64 5, .int .i64 0, .int .i64 1073741825]] : List AV).length : Int) : AV) = (.int .i64 1 : AV),
        0 ≤ (0 : Int),
        (1 : Int) = 1]) (by kernel_rfl)
      ⟨rfl, (by decide), rfl, trivial⟩

theorem orf11_37   : FnF Try.prog 11 true [.list [.agg [.int .i64 0, .int .i64 0, .int .i64 0]]] (.int .i64 1) :=
  fn_evF (by kernel_rfl) Try.func11 (by kernel_rfl) 400
      [.d, .d, .v (.int .i64 1), .d, .d, .d, .d, .d, .d, .d, .d, .d, .d, .d, .d, .d, .d, .d, .d, .d, .d, .d, .d, .d, .d, .d, .d, .d, .d, .d, .d, .d, .d, .d, .d, .d, .d, .d, .d, .d, .d, .d, .d, .d, .d, .d, .d, .d, .d, .d, .d, .d, .d]
      (by kernel_rfl) (ob := [(.int .i64 (([.agg [.int .i64 0, .int .i64 0, .int .i64 0]] : List AV).length : Int) : AV) = (.int .i64 1 : AV),
        0 ≤ (0 : Int),
        (1 : Int) = 1]) (by kernel_rfl)
      ⟨rfl, (by decide), rfl, trivial⟩

theorem refuses_all {k cost far : Int} (hk : -9223372036854775808 ≤ k ∧ k ≤ 9223372036854775807) (hc : -9223372036854775808 ≤ cost ∧ cost ≤ 9223372036854775807) (hf : 0 ≤ far ∧ far ≤ 255) : FnF Try.prog 5 true [.int .i64 k, .int .i64 cost, .int .u8 far] (.bool true) := by
  refine fn_walkF Try.func5 (by kernel_rfl) (by kernel_rfl) (by kernel_rfl) (st := ⟨[.int .i64 k, .int .i64 cost, .int .u8 far, .tuple [], .tuple [], .tuple [], .tuple [], .tuple [], .tuple [], .tuple [], .tuple [], .tuple [], .tuple [], .tuple [], .tuple [], .tuple [], .tuple [], .tuple [], .tuple [], .tuple [], .tuple [], .tuple [], .tuple [], .tuple [], .tuple [], .tuple [], .tuple [], .tuple [], .tuple [], .tuple [], .tuple [], .tuple [], .tuple [], .tuple [], .tuple [], .tuple [], .tuple [], .tuple [], .tuple [], .tuple [], .tuple [], .tuple [], .tuple [], .tuple [], .tuple [], .tuple [], .tuple [], .tuple [], .tuple [], .tuple [], .tuple [], .tuple [], .tuple [], .tuple [], .tuple [], .tuple [], .tuple [], .tuple [], .tuple [], .tuple [], .tuple [], .tuple [], .tuple [], .tuple [], .tuple [], .tuple [], .tuple [], .tuple [], .tuple [], .tuple [], .tuple [], .tuple [], .tuple [], .tuple [], .tuple [], .tuple [], .tuple [], .tuple [], .tuple [], .tuple [], .tuple [], .tuple [], .tuple [], .tuple [], .tuple [], .tuple [], .tuple [], .tuple [], .tuple [], .tuple [], .tuple [], .tuple [], .tuple [], .tuple [], .tuple []], []⟩) rfl ?_
  refine Ok.seqP [] (by kernel_rfl) ?_
  refine Ok.evf (by kernel_rfl) 400 [.d] [0, 1, 2, 6, 7, 8, 9, 10, 11, 12, 13, 14, 15, 16, 17, 18, 19, 20, 21, 22, 23, 24, 25, 26, 27, 28, 29, 30, 31, 32, 33, 34, 35, 36, 37, 38, 39, 40, 41, 42, 43, 44, 45, 46, 47, 48, 49, 50, 51, 52, 53, 54, 55, 56, 57, 58, 59, 60, 61, 62, 63, 64, 65, 66, 67, 68, 69, 70, 71, 72, 73, 74, 75, 76, 77, 78, 79, 80, 81, 82, 83, 84, 85, 86, 87, 88, 89, 90, 91, 92, 93, 94] 0 (st' := ⟨[.int .i64 k, .int .i64 cost, .int .u8 far, .any, .any, .any, .bool false, .tuple [], .tuple [], .tuple [], .tuple [], .tuple [], .tuple [], .tuple [], .tuple [], .tuple [], .tuple [], .tuple [], .tuple [], .tuple [], .tuple [], .tuple [], .tuple [], .tuple [], .tuple [], .tuple [], .tuple [], .tuple [], .tuple [], .tuple [], .tuple [], .tuple [], .tuple [], .tuple [], .tuple [], .tuple [], .tuple [], .tuple [], .tuple [], .tuple [], .tuple [], .tuple [], .tuple [], .tuple [], .tuple [], .tuple [], .tuple [], .tuple [], .tuple [], .tuple [], .tuple [], .tuple [], .tuple [], .tuple [], .tuple [], .tuple [], .tuple [], .tuple [], .tuple [], .tuple [], .tuple [], .tuple [], .tuple [], .tuple [], .tuple [], .tuple [], .tuple [], .tuple [], .tuple [], .tuple [], .tuple [], .tuple [], .tuple [], .tuple [], .tuple [], .tuple [], .tuple [], .tuple [], .tuple [], .tuple [], .tuple [], .tuple [], .tuple [], .tuple [], .tuple [], .tuple [], .tuple [], .tuple [], .tuple [], .tuple [], .tuple [], .tuple [], .tuple [], .tuple [], .tuple []], []⟩) (e := .normal) (ob := []) (by kernel_rfl) trivial ?_
  refine seq_n ?_
  refine Ok.seqP [true] (by kernel_rfl) ?_
  refine Ok.evf (by kernel_rfl) 400 [.f true (.bool true), .d] [0, 1, 2, 6, 7, 8, 9, 10, 11, 12, 13, 14, 16, 17, 18, 19, 20, 21, 22, 23, 24, 25, 26, 27, 28, 29, 30, 31, 32, 33, 34, 35, 36, 37, 38, 39, 40, 41, 42, 43, 44, 45, 46, 47, 48, 49, 50, 51, 52, 53, 54, 55, 56, 57, 58, 59, 60, 61, 62, 63, 64, 65, 66, 67, 68, 69, 70, 71, 72, 73, 74, 75, 76, 77, 78, 79, 80, 81, 82, 83, 84, 85, 86, 87, 88, 89, 90, 91, 92, 93, 94] 0 (st' := ⟨[.int .i64 k, .int .i64 cost, .int .u8 far, .any, .any, .any, .bool false, .bool true, .tuple [], .tuple [], .tuple [], .tuple [], .tuple [], .tuple [], .tuple [], .any, .tuple [], .tuple [], .tuple [], .tuple [], .tuple [], .tuple [], .tuple [], .tuple [], .tuple [], .tuple [], .tuple [], .tuple [], .tuple [], .tuple [], .tuple [], .tuple [], .tuple [], .tuple [], .tuple [], .tuple [], .tuple [], .tuple [], .tuple [], .tuple [], .tuple [], .tuple [], .tuple [], .tuple [], .tuple [], .tuple [], .tuple [], .tuple [], .tuple [], .tuple [], .tuple [], .tuple [], .tuple [], .tuple [], .tuple [], .tuple [], .tuple [], .tuple [], .tuple [], .tuple [], .tuple [], .tuple [], .tuple [], .tuple [], .tuple [], .tuple [], .tuple [], .tuple [], .tuple [], .tuple [], .tuple [], .tuple [], .tuple [], .tuple [], .tuple [], .tuple [], .tuple [], .tuple [], .tuple [], .tuple [], .tuple [], .tuple [], .tuple [], .tuple [], .tuple [], .tuple [], .tuple [], .tuple [], .tuple [], .tuple [], .tuple [], .tuple [], .tuple [], .tuple [], .tuple []], []⟩) (e := .normal) (ob := [FnF Try.prog 9 true [] (.bool true)]) (by kernel_rfl) ⟨ex_examples, trivial⟩ ?_
  refine seq_n ?_
  refine Ok.seqP [true, true] (by kernel_rfl) ?_
  refine Ok.evf (by kernel_rfl) 400 [.d, .d, .d] [0, 1, 2, 6, 7, 8, 9, 10, 11, 12, 13, 14, 18, 19, 20, 21, 22, 23, 24, 25, 26, 27, 28, 29, 30, 31, 32, 33, 34, 35, 36, 37, 38, 39, 40, 41, 42, 43, 44, 45, 46, 47, 48, 49, 50, 51, 52, 53, 54, 55, 56, 57, 58, 59, 60, 61, 62, 63, 64, 65, 66, 67, 68, 69, 70, 71, 72, 73, 74, 75, 76, 77, 78, 79, 80, 81, 82, 83, 84, 85, 86, 87, 88, 89, 90, 91, 92, 93, 94] 0 (st' := ⟨[.int .i64 k, .int .i64 cost, .int .u8 far, .any, .any, .any, .bool false, .bool true, .tuple [], .tuple [], .tuple [], .tuple [], .tuple [], .tuple [], .tuple [], .any, .any, .any, .tuple [], .tuple [], .tuple [], .tuple [], .tuple [], .tuple [], .tuple [], .tuple [], .tuple [], .tuple [], .tuple [], .tuple [], .tuple [], .tuple [], .tuple [], .tuple [], .tuple [], .tuple [], .tuple [], .tuple [], .tuple [], .tuple [], .tuple [], .tuple [], .tuple [], .tuple [], .tuple [], .tuple [], .tuple [], .tuple [], .tuple [], .tuple [], .tuple [], .tuple [], .tuple [], .tuple [], .tuple [], .tuple [], .tuple [], .tuple [], .tuple [], .tuple [], .tuple [], .tuple [], .tuple [], .tuple [], .tuple [], .tuple [], .tuple [], .tuple [], .tuple [], .tuple [], .tuple [], .tuple [], .tuple [], .tuple [], .tuple [], .tuple [], .tuple [], .tuple [], .tuple [], .tuple [], .tuple [], .tuple [], .tuple [], .tuple [], .tuple [], .tuple [], .tuple [], .tuple [], .tuple [], .tuple [], .tuple [], .tuple [], .tuple [], .tuple [], .tuple []], []⟩) (e := .normal) (ob := []) (by kernel_rfl) trivial ?_
  refine seq_n ?_
  refine Ok.seqP [true, true, true] (by kernel_rfl) ?_
  refine Ok.evf (by kernel_rfl) 400 [.d, .f true (.agg [.list ((lrnL k).map encQ), .int .i64 (lrnE k)]), .d, .d] [0, 1, 2, 6, 7, 8, 9, 10, 11, 12, 13, 14, 20, 21, 22, 23, 24, 25, 26, 27, 28, 29, 30, 31, 32, 33, 34, 35, 36, 37, 38, 39, 40, 41, 42, 43, 44, 45, 46, 47, 48, 49, 50, 51, 52, 53, 54, 55, 56, 57, 58, 59, 60, 61, 62, 63, 64, 65, 66, 67, 68, 69, 70, 71, 72, 73, 74, 75, 76, 77, 78, 79, 80, 81, 82, 83, 84, 85, 86, 87, 88, 89, 90, 91, 92, 93, 94] 1 (st' := ⟨[.int .i64 k, .int .i64 cost, .int .u8 far, .any, .any, .any, .bool false, .bool true, .ptr 0 0, .tuple [], .tuple [], .tuple [], .tuple [], .tuple [], .tuple [], .any, .any, .any, .any, .any, .tuple [], .tuple [], .tuple [], .tuple [], .tuple [], .tuple [], .tuple [], .tuple [], .tuple [], .tuple [], .tuple [], .tuple [], .tuple [], .tuple [], .tuple [], .tuple [], .tuple [], .tuple [], .tuple [], .tuple [], .tuple [], .tuple [], .tuple [], .tuple [], .tuple [], .tuple [], .tuple [], .tuple [], .tuple [], .tuple [], .tuple [], .tuple [], .tuple [], .tuple [], .tuple [], .tuple [], .tuple [], .tuple [], .tuple [], .tuple [], .tuple [], .tuple [], .tuple [], .tuple [], .tuple [], .tuple [], .tuple [], .tuple [], .tuple [], .tuple [], .tuple [], .tuple [], .tuple [], .tuple [], .tuple [], .tuple [], .tuple [], .tuple [], .tuple [], .tuple [], .tuple [], .tuple [], .tuple [], .tuple [], .tuple [], .tuple [], .tuple [], .tuple [], .tuple [], .tuple [], .tuple [], .tuple [], .tuple [], .tuple [], .tuple []], [.cells [.list ((lrnL k).map encQ), .int .i64 (lrnE k)]]⟩) (e := .normal) (ob := [FnF Try.prog 20 true [.nilslice, .int .i64 k, .bool true] (.agg [.list ((lrnL k).map encQ), .int .i64 (lrnE k)])]) (by kernel_rfl) ⟨orf_l1 hk, trivial⟩ ?_
  refine seq_n ?_
  refine Ok.seqP [true, true, true, true] (by kernel_rfl) ?_
  refine Ok.evf (by kernel_rfl) 400 [.d, .f true (.agg [.int .i64 (losN cost), .int .i64 (losD cost), .int .i64 (losE cost)]), .d, .d] [0, 1, 2, 6, 7, 8, 9, 10, 11, 12, 13, 14, 22, 23, 24, 25, 26, 27, 28, 29, 30, 31, 32, 33, 34, 35, 36, 37, 38, 39, 40, 41, 42, 43, 44, 45, 46, 47, 48, 49, 50, 51, 52, 53, 54, 55, 56, 57, 58, 59, 60, 61, 62, 63, 64, 65, 66, 67, 68, 69, 70, 71, 72, 73, 74, 75, 76, 77, 78, 79, 80, 81, 82, 83, 84, 85, 86, 87, 88, 89, 90, 91, 92, 93, 94] 2 (st' := ⟨[.int .i64 k, .int .i64 cost, .int .u8 far, .any, .any, .any, .bool false, .bool true, .ptr 0 0, .ptr 1 0, .tuple [], .tuple [], .tuple [], .tuple [], .tuple [], .any, .any, .any, .any, .any, .any, .any, .tuple [], .tuple [], .tuple [], .tuple [], .tuple [], .tuple [], .tuple [], .tuple [], .tuple [], .tuple [], .tuple [], .tuple [], .tuple [], .tuple [], .tuple [], .tuple [], .tuple [], .tuple [], .tuple [], .tuple [], .tuple [], .tuple [], .tuple [], .tuple [], .tuple [], .tuple [], .tuple [], .tuple [], .tuple [], .tuple [], .tuple [], .tuple [], .tuple [], .tuple [], .tuple [], .tuple [], .tuple [], .tuple [], .tuple [], .tuple [], .tuple [], .tuple [], .tuple [], .tuple [], .tuple [], .tuple [], .tuple [], .tuple [], .tuple [], .tuple [], .tuple [], .tuple [], .tuple [], .tuple [], .tuple [], .tuple [], .tuple [], .tuple [], .tuple [], .tuple [], .tuple [], .tuple [], .tuple [], .tuple [], .tuple [], .tuple [], .tuple [], .tuple [], .tuple [], .tuple [], .tuple [], .tuple [], .tuple []], [.cells [.list ((lrnL k).map encQ), .int .i64 (lrnE k)], .cells [.int .i64 (losN cost), .int .i64 (losD cost), .int .i64 (losE cost)]]⟩) (e := .normal) (ob := [FnF Try.prog 18 true [.nilslice, .int .i64 3, .int .i64 cost] (.agg [.int .i64 (losN cost), .int .i64 (losD cost), .int .i64 (losE cost)])]) (by kernel_rfl) ⟨orf_s hc, trivial⟩ ?_
  refine seq_n ?_
  refine Ok.seqP [true, true, true, true, true] (by kernel_rfl) ?_
  refine Ok.evf (by kernel_rfl) 400 [.d, .v (.int .u8 (far % 2)), .v (.int .i64 (far % 2)), .v (.int .i64 (1073741824 - (far % 2))), .d, .d, .d] [0, 1, 2, 6, 7, 8, 9, 10, 11, 12, 13, 14, 28, 29, 30, 31, 32, 33, 34, 35, 36, 37, 38, 39, 40, 41, 42, 43, 44, 45, 46, 47, 48, 49, 50, 51, 52, 53, 54, 55, 56, 57, 58, 59, 60, 61, 62, 63, 64, 65, 66, 67, 68, 69, 70, 71, 72, 73, 74, 75, 76, 77, 78, 79, 80, 81, 82, 83, 84, 85, 86, 87, 88, 89, 90, 91, 92, 93, 94] 3 (st' := ⟨[.int .i64 k, .int .i64 cost, .int .u8 far, .any, .any, .any, .bool false, .bool true, .ptr 0 0, .ptr 1 0, .slice 2 0 1 0, .tuple [], .tuple [], .tuple [], .tuple [], .any, .any, .any, .any, .any, .any, .any, .any, .any, .any, .any, .any, .any, .tuple [], .tuple [], .tuple [], .tuple [], .tuple [], .tuple [], .tuple [], .tuple [], .tuple [], .tuple [], .tuple [], .tuple [], .tuple [], .tuple [], .tuple [], .tuple [], .tuple [], .tuple [], .tuple [], .tuple [], .tuple [], .tuple [], .tuple [], .tuple [], .tuple [], .tuple [], .tuple [], .tuple [], .tuple [], .tuple [], .tuple [], .tuple [], .tuple [], .tuple [], .tuple [], .tuple [], .tuple [], .tuple [], .tuple [], .tuple [], .tuple [], .tuple [], .tuple [], .tuple [], .tuple [], .tuple [], .tuple [], .tuple [], .tuple [], .tuple [], .tuple [], .tuple [], .tuple [], .tuple [], .tuple [], .tuple [], .tuple [], .tuple [], .tuple [], .tuple [], .tuple [], .tuple [], .tuple [], .tuple [], .tuple [], .tuple [], .tuple []], [.cells [.list ((lrnL k).map encQ), .int .i64 (lrnE k)], .cells [.int .i64 (losN cost), .int .i64 (losD cost), .int .i64 (losE cost)], .row 3 [.agg [.int .i64 5, .int .i64 (1073741824 - (far % 2)), .int .i64 0]] 0]⟩) (e := .normal) (ob := [∀ e ∈ ([.agg [.int .i64 5, .int .i64 (1073741824 - (far % 2)), .int .i64 0]] : List AV), belowV 3 e = true,
        (.int .u8 (far.tmod 2) : AV) = (.int .u8 (far % 2) : AV),
        (2 : Int) ≠ 0,
        (.int .i64 (IntKind.wrap .i64 (far % 2)) : AV) = (.int .i64 (far % 2) : AV),
        (.int .i64 (IntKind.wrap .i64 (1073741824 - (far % 2))) : AV) = (.int .i64 (1073741824 - (far % 2)) : AV)]) (by kernel_rfl) ⟨(by simp [belowV, idsOf, idsL]), iI (Int.tmod_eq_emod_of_nonneg (by omega)), (by decide), iW (w64 (by omega) (by omega)), iW (w64 (by omega) (by omega)), trivial⟩ ?_
  refine seq_n ?_
  refine Ok.seqP [true, true, true, true, true, true] (by kernel_rfl) ?_
  refine Ok.evf (by kernel_rfl) 400 [.d, .f true (.agg [.list ((lr2L far).map encQ), .int .i64 (lr2E far)]), .d, .d, .f true (.agg [.list (([] : List An).map encQ), .int .i64 2]), .d, .d, .d, .d] [0, 1, 2, 6, 7, 8, 9, 11, 12, 13, 14, 33, 34, 35, 36, 37, 38, 39, 40, 41, 42, 43, 44, 45, 46, 47, 48, 49, 50, 51, 52, 53, 54, 55, 56, 57, 58, 59, 60, 61, 62, 63, 64, 65, 66, 67, 68, 69, 70, 71, 72, 73, 74, 75, 76, 77, 78, 79, 80, 81, 82, 83, 84, 85, 86, 87, 88, 89, 90, 91, 92, 93, 94] 5 (st' := ⟨[.int .i64 k, .int .i64 cost, .int .u8 far, .any, .any, .any, .bool false, .bool true, .ptr 0 0, .ptr 1 0, .any, .ptr 3 0, .ptr 4 0, .tuple [], .tuple [], .any, .any, .any, .any, .any, .any, .any, .any, .any, .any, .any, .any, .any, .any, .any, .any, .any, .any, .tuple [], .tuple [], .tuple [], .tuple [], .tuple [], .tuple [], .tuple [], .tuple [], .tuple [], .tuple [], .tuple [], .tuple [], .tuple [], .tuple [], .tuple [], .tuple [], .tuple [], .tuple [], .tuple [], .tuple [], .tuple [], .tuple [], .tuple [], .tuple [], .tuple [], .tuple [], .tuple [], .tuple [], .tuple [], .tuple [], .tuple [], .tuple [], .tuple [], .tuple [], .tuple [], .tuple [], .tuple [], .tuple [], .tuple [], .tuple [], .tuple [], .tuple [], .tuple [], .tuple [], .tuple [], .tuple [], .tuple [], .tuple [], .tuple [], .tuple [], .tuple [], .tuple [], .tuple [], .tuple [], .tuple [], .tuple [], .tuple [], .tuple [], .tuple [], .tuple [], .tuple [], .tuple []], [.cells [.list ((lrnL k).map encQ), .int .i64 (lrnE k)], .cells [.int .i64 (losN cost), .int .i64 (losD cost), .int .i64 (losE cost)], .row 3 [.agg [.int .i64 5, .int .i64 (1073741824 - (far % 2)), .int .i64 0]] 0, .cells [.list ((lr2L far).map encQ), .int .i64 (lr2E far)], .cells [.list (([] : List An).map encQ), .int .i64 2]]⟩) (e := .normal) (ob := [∀ e ∈ ([.agg [.int .i64 5, .int .i64 (1073741824 - (far % 2)), .int .i64 0]] : List AV), belowV 5 e = true,
        FnF Try.prog 20 true [.list [.agg [.int .i64 5, .int .i64 (1073741824 - (far % 2)), .int .i64 0]], .int .i64 5, .bool true] (.agg [.list ((lr2L far).map encQ), .int .i64 (lr2E far)]),
        ∀ e ∈ ([.agg [.int .i64 5, .int .i64 (1073741824 - (far % 2)), .int .i64 0]] : List AV), idsOf e = [],
        FnF Try.prog 14 true [.list [.agg [.int .i64 5, .int .i64 (1073741824 - (far % 2)), .int .i64 0]], .list [.agg [.int .i64 5, .int .i64 (1073741824 - (far % 2)), .int .i64 0]]] (.agg [.list (([] : List An).map encQ), .int .i64 2]),
        ∀ e ∈ ([.agg [.int .i64 5, .int .i64 (1073741824 - (far % 2)), .int .i64 0]] : List AV), idsOf e = [],
        ∀ e ∈ ([.agg [.int .i64 5, .int .i64 (1073741824 - (far % 2)), .int .i64 0]] : List AV), idsOf e = []]) (by kernel_rfl) ⟨(by simp [belowV, idsOf, idsL]), orf_l2 hf, (by simp [idsOf, idsL]), orf_j hf, (by simp [idsOf, idsL]), (by simp [idsOf, idsL]), trivial⟩ ?_
  refine seq_n ?_
  refine Ok.seqP [true, true, true, true, true, true, true] (by kernel_rfl) ?_
  refine Ok.cutP [true, true, true, true, true, true, true, false] (s1 := ⟨[.any, .any, .any, .any, .any, .any, .bool false, .bool true, .any, .any, .any, .any, .any, .tuple [], .tuple [], .any, .any, .any, .any, .any, .any, .any, .any, .any, .any, .any, .any, .any, .any, .any, .any, .any, .any, .any, .any, .any, .any, .any, .any, .any, .any, .any, .any, .any, .any, .any, .any, .any, .any, .any, .any, .any, .any, .any, .any, .any, .any, .any, .any, .any, .any, .any, .any, .any, .any, .any, .any, .any, .bool false, .tuple [], .tuple [], .tuple [], .tuple [], .tuple [], .tuple [], .tuple [], .tuple [], .tuple [], .tuple [], .tuple [], .tuple [], .tuple [], .tuple [], .tuple [], .tuple [], .tuple [], .tuple [], .tuple [], .tuple [], .tuple [], .tuple [], .tuple [], .tuple [], .tuple [], .tuple []], [.cells [.list ((lrnL k).map encQ), .int .i64 (lrnE k)], .cells [.int .i64 (losN cost), .int .i64 (losD cost), .int .i64 (losE cost)], .row 3 [.agg [.int .i64 5, .int .i64 (1073741824 - (far % 2)), .int .i64 0]] 0, .cells [.list ((lr2L far).map encQ), .int .i64 (lr2E far)], .cells [.list (([] : List An).map encQ), .int .i64 2]]⟩) (by kernel_rfl) ?_ ?_
  · by_cases q1 : k < 1
    · by_cases q2 : cost < 0
      · by_cases q3 : far % 2 = 0
        · refine Ok.evf (by kernel_rfl) 400 [.d, .d, .v (.bool true), .d, .v (.bool true), .d, .d, .d, .d, .v (.bool false), .d, .d, .d, .v (.bool true), .d, .v (.bool true), .d, .d, .d, .d, .v (.bool false), .d, .d, .d, .d, .v (.bool true), .d, .v (.int .u8 (far % 2)), .v (.bool true), .v (.bool false), .d, .d, .d, .d, .v (.bool false), .d] [6, 7, 13, 14, 68, 69, 70, 71, 72, 73, 74, 75, 76, 77, 78, 79, 80, 81, 82, 83, 84, 85, 86, 87, 88, 89, 90, 91, 92, 93, 94] 5 (st' := ⟨[.any, .any, .any, .any, .any, .any, .bool false, .bool true, .any, .any, .any, .any, .any, .tuple [], .tuple [], .any, .any, .any, .any, .any, .any, .any, .any, .any, .any, .any, .any, .any, .any, .any, .any, .any, .any, .any, .any, .any, .any, .any, .any, .any, .any, .any, .any, .any, .any, .any, .any, .any, .any, .any, .any, .any, .any, .any, .any, .any, .any, .any, .any, .any, .any, .any, .any, .any, .any, .any, .any, .any, .bool false, .tuple [], .tuple [], .tuple [], .tuple [], .tuple [], .tuple [], .tuple [], .tuple [], .tuple [], .tuple [], .tuple [], .tuple [], .tuple [], .tuple [], .tuple [], .tuple [], .tuple [], .tuple [], .tuple [], .tuple [], .tuple [], .tuple [], .tuple [], .tuple [], .tuple [], .tuple []], [.cells [.list ((lrnL k).map encQ), .int .i64 (lrnE k)], .cells [.int .i64 (losN cost), .int .i64 (losD cost), .int .i64 (losE cost)], .row 3 [.agg [.int .i64 5, .int .i64 (1073741824 - (far % 2)), .int .i64 0]] 0, .cells [.list ((lr2L far).map encQ), .int .i64 (lr2E far)], .cells [.list (([] : List An).map encQ), .int .i64 2]]⟩) (e := .normal) (ob := [∀ e ∈ ([.agg [.int .i64 5, .int .i64 (1073741824 - (far % 2)), .int .i64 0]] : List AV), belowV 5 e = true,
        (.bool ((lrnE k) == 1) : AV) = (.bool true : AV),
        (.bool (decide (k < 1)) : AV) = (.bool true : AV),
        (.bool (!(true == true)) : AV) = (.bool false : AV),
        (.bool ((losE cost) == 1) : AV) = (.bool true : AV),
        (.bool (decide (cost < 0)) : AV) = (.bool true : AV),
        (.bool (!(true == true)) : AV) = (.bool false : AV),
        (.bool ((lr2E far) == 2) : AV) = (.bool true : AV),
        (.int .u8 (far.tmod 2) : AV) = (.int .u8 (far % 2) : AV),
        (2 : Int) ≠ 0,
        (.bool ((far % 2) == 0) : AV) = (.bool true : AV),
        (.bool (!(true == true)) : AV) = (.bool false : AV),
        (.bool (2 != 2) : AV) = (.bool false : AV)]) (by kernel_rfl) ⟨(by simp [belowV, idsOf, idsL]), (eT (by simp [lrnE, *])), (bT q1), bneB rfl rfl, (eT (by simp [losE, *])), (bT q2), bneB rfl rfl, (eT (by simp [lr2E, *])), iI (Int.tmod_eq_emod_of_nonneg (by omega)), (by decide), (eT (by omega)), bneB rfl rfl, (nF (by omega)), trivial⟩ ?_
          exact rfl
        · refine Ok.evf (by kernel_rfl) 400 [.d, .d, .v (.bool true), .d, .v (.bool true), .d, .d, .d, .d, .v (.bool false), .d, .d, .d, .v (.bool true), .d, .v (.bool true), .d, .d, .d, .d, .v (.bool false), .d, .d, .d, .d, .v (.bool false), .d, .v (.int .u8 (far % 2)), .v (.bool false), .v (.bool false), .d, .d, .d, .d, .v (.bool false), .d] [6, 7, 13, 14, 68, 69, 70, 71, 72, 73, 74, 75, 76, 77, 78, 79, 80, 81, 82, 83, 84, 85, 86, 87, 88, 89, 90, 91, 92, 93, 94] 5 (st' := ⟨[.any, .any, .any, .any, .any, .any, .bool false, .bool true, .any, .any, .any, .any, .any, .tuple [], .tuple [], .any, .any, .any, .any, .any, .any, .any, .any, .any, .any, .any, .any, .any, .any, .any, .any, .any, .any, .any, .any, .any, .any, .any, .any, .any, .any, .any, .any, .any, .any, .any, .any, .any, .any, .any, .any, .any, .any, .any, .any, .any, .any, .any, .any, .any, .any, .any, .any, .any, .any, .any, .any, .any, .bool false, .tuple [], .tuple [], .tuple [], .tuple [], .tuple [], .tuple [], .tuple [], .tuple [], .tuple [], .tuple [], .tuple [], .tuple [], .tuple [], .tuple [], .tuple [], .tuple [], .tuple [], .tuple [], .tuple [], .tuple [], .tuple [], .tuple [], .tuple [], .tuple [], .tuple [], .tuple []], [.cells [.list ((lrnL k).map encQ), .int .i64 (lrnE k)], .cells [.int .i64 (losN cost), .int .i64 (losD cost), .int .i64 (losE cost)], .row 3 [.agg [.int .i64 5, .int .i64 (1073741824 - (far % 2)), .int .i64 0]] 0, .cells [.list ((lr2L far).map encQ), .int .i64 (lr2E far)], .cells [.list (([] : List An).map encQ), .int .i64 2]]⟩) (e := .normal) (ob := [∀ e ∈ ([.agg [.int .i64 5, .int .i64 (1073741824 - (far % 2)), .int .i64 0]] : List AV), belowV 5 e = true,
        (.bool ((lrnE k) == 1) : AV) = (.bool true : AV),
        (.bool (decide (k < 1)) : AV) = (.bool true : AV),
        (.bool (!(true == true)) : AV) = (.bool false : AV),
        (.bool ((losE cost) == 1) : AV) = (.bool true : AV),
        (.bool (decide (cost < 0)) : AV) = (.bool true : AV),
        (.bool (!(true == true)) : AV) = (.bool false : AV),
        (.bool ((lr2E far) == 2) : AV) = (.bool false : AV),
        (.int .u8 (far.tmod 2) : AV) = (.int .u8 (far % 2) : AV),
        (2 : Int) ≠ 0,
        (.bool ((far % 2) == 0) : AV) = (.bool false : AV),
        (.bool (!(false == false)) : AV) = (.bool false : AV),
        (.bool (2 != 2) : AV) = (.bool false : AV)]) (by kernel_rfl) ⟨(by simp [belowV, idsOf, idsL]), (eT (by simp [lrnE, *])), (bT q1), bneB rfl rfl, (eT (by simp [losE, *])), (bT q2), bneB rfl rfl, (eF (by simp [lr2E, *])), iI (Int.tmod_eq_emod_of_nonneg (by omega)), (by decide), (eF (by omega)), bneB rfl rfl, (nF (by omega)), trivial⟩ ?_
          exact rfl
      · by_cases q3 : cost > 1073741824
        · by_cases q4 : far % 2 = 0
          · refine Ok.evf (by kernel_rfl) 400 [.d, .d, .v (.bool true), .d, .v (.bool true), .d, .d, .d, .d, .v (.bool false), .d, .d, .d, .v (.bool true), .d, .v (.bool false), .d, .d, .v (.bool true), .d, .v (.bool false), .d, .d, .d, .d, .v (.bool true), .d, .v (.int .u8 (far % 2)), .v (.bool true), .v (.bool false), .d, .d, .d, .d, .v (.bool false), .d] [6, 7, 13, 14, 68, 69, 70, 71, 72, 73, 74, 75, 76, 77, 78, 79, 80, 81, 82, 83, 84, 85, 86, 87, 88, 89, 90, 91, 92, 93, 94] 5 (st' := ⟨[.any, .any, .any, .any, .any, .any, .bool false, .bool true, .any, .any, .any, .any, .any, .tuple [], .tuple [], .any, .any, .any, .any, .any, .any, .any, .any, .any, .any, .any, .any, .any, .any, .any, .any, .any, .any, .any, .any, .any, .any, .any, .any, .any, .any, .any, .any, .any, .any, .any, .any, .any, .any, .any, .any, .any, .any, .any, .any, .any, .any, .any, .any, .any, .any, .any, .any, .any, .any, .any, .any, .any, .bool false, .tuple [], .tuple [], .tuple [], .tuple [], .tuple [], .tuple [], .tuple [], .tuple [], .tuple [], .tuple [], .tuple [], .tuple [], .tuple [], .tuple [], .tuple [], .tuple [], .tuple [], .tuple [], .tuple [], .tuple [], .tuple [], .tuple [], .tuple [], .tuple [], .tuple [], .tuple []], [.cells [.list ((lrnL k).map encQ), .int .i64 (lrnE k)], .cells [.int .i64 (losN cost), .int .i64 (losD cost), .int .i64 (losE cost)], .row 3 [.agg [.int .i64 5, .int .i64 (1073741824 - (far % 2)), .int .i64 0]] 0, .cells [.list ((lr2L far).map encQ), .int .i64 (lr2E far)], .cells [.list (([] : List An).map encQ), .int .i64 2]]⟩) (e := .normal) (ob := [∀ e ∈ ([.agg [.int .i64 5, .int .i64 (1073741824 - (far % 2)), .int .i64 0]] : List AV), belowV 5 e = true,
        (.bool ((lrnE k) == 1) : AV) = (.bool true : AV),
        (.bool (decide (k < 1)) : AV) = (.bool true : AV),
        (.bool (!(true == true)) : AV) = (.bool false : AV),
        (.bool ((losE cost) == 1) : AV) = (.bool true : AV),
        (.bool (decide (cost < 0)) : AV) = (.bool false : AV),
        (.bool (decide (cost > 1073741824)) : AV) = (.bool true : AV),
        (.bool (!(true == true)) : AV) = (.bool false : AV),
        (.bool ((lr2E far) == 2) : AV) = (.bool true : AV),
        (.int .u8 (far.tmod 2) : AV) = (.int .u8 (far % 2) : AV),
        (2 : Int) ≠ 0,
        (.bool ((far % 2) == 0) : AV) = (.bool true : AV),
        (.bool (!(true == true)) : AV) = (.bool false : AV),
        (.bool (2 != 2) : AV) = (.bool false : AV)]) (by kernel_rfl) ⟨(by simp [belowV, idsOf, idsL]), (eT (by simp [lrnE, *])), (bT q1), bneB rfl rfl, (eT (by simp [losE, *])), (bF q2), (bT q3), bneB rfl rfl, (eT (by simp [lr2E, *])), iI (Int.tmod_eq_emod_of_nonneg (by omega)), (by decide), (eT (by omega)), bneB rfl rfl, (nF (by omega)), trivial⟩ ?_
            exact rfl
          · refine Ok.evf (by kernel_rfl) 400 [.d, .d, .v (.bool true), .d, .v (.bool true), .d, .d, .d, .d, .v (.bool false), .d, .d, .d, .v (.bool true), .d, .v (.bool false), .d, .d, .v (.bool true), .d, .v (.bool false), .d, .d, .d, .d, .v (.bool false), .d, .v (.int .u8 (far % 2)), .v (.bool false), .v (.bool false), .d, .d, .d, .d, .v (.bool false), .d] [6, 7, 13, 14, 68, 69, 70, 71, 72, 73, 74, 75, 76, 77, 78, 79, 80, 81, 82, 83, 84, 85, 86, 87, 88, 89, 90, 91, 92, 93, 94] 5 (st' := ⟨[.any, .any, .any, .any, .any, .any, .bool false, .bool true, .any, .any, .any, .any, .any, .tuple [], .tuple [], .any, .any, .any, .any, .any, .any, .any, .any, .any, .any, .any, .any, .any, .any, .any, .any, .any, .any, .any, .any, .any, .any, .any, .any, .any, .any, .any, .any, .any, .any, .any, .any, .any, .any, .any, .any, .any, .any, .any, .any, .any, .any, .any, .any, .any, .any, .any, .any, .any, .any, .any, .any, .any, .bool false, .tuple [], .tuple [], .tuple [], .tuple [], .tuple [], .tuple [], .tuple [], .tuple [], .tuple [], .tuple [], .tuple [], .tuple [], .tuple [], .tuple [], .tuple [], .tuple [], .tuple [], .tuple [], .tuple [], .tuple [], .tuple [], .tuple [], .tuple [], .tuple [], .tuple [], .tuple []], [.cells [.list ((lrnL k).map encQ), .int .i64 (lrnE k)], .cells [.int .i64 (losN cost), .int .i64 (losD cost), .int .i64 (losE cost)], .row 3 [.agg [.int .i64 5, .int .i64 (1073741824 - (far % 2)), .int .i64 0]] 0, .cells [.list ((lr2L far).map encQ), .int .i64 (lr2E far)], .cells [.list (([] : List An).map encQ), .int .i64 2]]⟩) (e := .normal) (ob := [∀ e ∈ ([.agg [.int .i64 5, .int .i64 (1073741824 - (far % 2)), .int .i64 0]] : List AV), belowV 5 e = true,
        (.bool ((lrnE k) == 1) : AV) = (.bool true : AV),
        (.bool (decide (k < 1)) : AV) = (.bool true : AV),
        (.bool (!(true == true)) : AV) = (.bool false : AV),
        (.bool ((losE cost) == 1) : AV) = (.bool true : AV),
        (.bool (decide (cost < 0)) : AV) = (.bool false : AV),
        (.bool (decide (cost > 1073741824)) : AV) = (.bool true : AV),
        (.bool (!(true == true)) : AV) = (.bool false : AV),
        (.bool ((lr2E far) == 2) : AV) = (.bool false : AV),
        (.int .u8 (far.tmod 2) : AV) = (.int .u8 (far % 2) : AV),
        (2 : Int) ≠ 0,
        (.bool ((far % 2) == 0) : AV) = (.bool false : AV),
        (.bool (!(false == false)) : AV) = (.bool false : AV),
        (.bool (2 != 2) : AV) = (.bool false : AV)]) (by kernel_rfl) ⟨(by simp [belowV, idsOf, idsL]), (eT (by simp [lrnE, *])), (bT q1), bneB rfl rfl, (eT (by simp [losE, *])), (bF q2), (bT q3), bneB rfl rfl, (eF (by simp [lr2E, *])), iI (Int.tmod_eq_emod_of_nonneg (by omega)), (by decide), (eF (by omega)), bneB rfl rfl, (nF (by omega)), trivial⟩ ?_
            exact rfl
        · by_cases q4 : far % 2 = 0
          · refine Ok.evf (by kernel_rfl) 400 [.d, .d, .v (.bool true), .d, .v (.bool true), .d, .d, .d, .d, .v (.bool false), .d, .d, .d, .v (.bool false), .d, .v (.bool false), .d, .d, .v (.bool false), .d, .v (.bool false), .d, .d, .d, .d, .v (.bool true), .d, .v (.int .u8 (far % 2)), .v (.bool true), .v (.bool false), .d, .d, .d, .d, .v (.bool false), .d] [6, 7, 13, 14, 68, 69, 70, 71, 72, 73, 74, 75, 76, 77, 78, 79, 80, 81, 82, 83, 84, 85, 86, 87, 88, 89, 90, 91, 92, 93, 94] 5 (st' := ⟨[.any, .any, .any, .any, .any, .any, .bool false, .bool true, .any, .any, .any, .any, .any, .tuple [], .tuple [], .any, .any, .any, .any, .any, .any, .any, .any, .any, .any, .any, .any, .any, .any, .any, .any, .any, .any, .any, .any, .any, .any, .any, .any, .any, .any, .any, .any, .any, .any, .any, .any, .any, .any, .any, .any, .any, .any, .any, .any, .any, .any, .any, .any, .any, .any, .any, .any, .any, .any, .any, .any, .any, .bool false, .tuple [], .tuple [], .tuple [], .tuple [], .tuple [], .tuple [], .tuple [], .tuple [], .tuple [], .tuple [], .tuple [], .tuple [], .tuple [], .tuple [], .tuple [], .tuple [], .tuple [], .tuple [], .tuple [], .tuple [], .tuple [], .tuple [], .tuple [], .tuple [], .tuple [], .tuple []], [.cells [.list ((lrnL k).map encQ), .int .i64 (lrnE k)], .cells [.int .i64 (losN cost), .int .i64 (losD cost), .int .i64 (losE cost)], .row 3 [.agg [.int .i64 5, .int .i64 (1073741824 - (far % 2)), .int .i64 0]] 0, .cells [.list ((lr2L far).map encQ), .int .i64 (lr2E far)], .cells [.list (([] : List An).map encQ), .int .i64 2]]⟩) (e := .normal) (ob := [∀ e ∈ ([.agg [.int .i64 5, .int .i64 (1073741824 - (far % 2)), .int .i64 0]] : List AV), belowV 5 e = true,
        (.bool ((lrnE k) == 1) : AV) = (.bool true : AV),
        (.bool (decide (k < 1)) : AV) = (.bool true : AV),
        (.bool (!(true == true)) : AV) = (.bool false : AV),
        (.bool ((losE cost) == 1) : AV) = (.bool false : AV),
        (.bool (decide (cost < 0)) : AV) = (.bool false : AV),
        (.bool (decide (cost > 1073741824)) : AV) = (.bool false : AV),
        (.bool (!(false == false)) : AV) = (.bool false : AV),
        (.bool ((lr2E far) == 2) : AV) = (.bool true : AV),
        (.int .u8 (far.tmod 2) : AV) = (.int .u8 (far % 2) : AV),
        (2 : Int) ≠ 0,
        (.bool ((far % 2) == 0) : AV) = (.bool true : AV),
        (.bool (!(true == true)) : AV) = (.bool false : AV),
        (.bool (2 != 2) : AV) = (.bool false : AV)]) (by kernel_rfl) ⟨(by simp [belowV, idsOf, idsL]), (eT (by simp [lrnE, *])), (bT q1), bneB rfl rfl, (eF (by simp [losE, *])), (bF q2), (bF q3), bneB rfl rfl, (eT (by simp [lr2E, *])), iI (Int.tmod_eq_emod_of_nonneg (by omega)), (by decide), (eT (by omega)), bneB rfl rfl, (nF (by omega)), trivial⟩ ?_
            exact rfl
          · refine Ok.evf (by kernel_rfl) 400 [.d, .d, .v (.bool true), .d, .v (.bool true), .d, .d, .d, .d, .v (.bool false), .d, .d, .d, .v (.bool false), .d, .v (.bool false), .d, .d, .v (.bool false), .d, .v (.bool false), .d, .d, .d, .d, .v (.bool false), .d, .v (.int .u8 (far % 2)), .v (.bool false), .v (.bool false), .d, .d, .d, .d, .v (.bool false), .d] [6, 7, 13, 14, 68, 69, 70, 71, 72, 73, 74, 75, 76, 77, 78, 79, 80, 81, 82, 83, 84, 85, 86, 87, 88, 89, 90, 91, 92, 93, 94] 5 (st' := ⟨[.any, .any, .any, .any, .any, .any, .bool false, .bool true, .any, .any, .any, .any, .any, .tuple [], .tuple [], .any, .any, .any, .any, .any, .any, .any, .any, .any, .any, .any, .any, .any, .any, .any, .any, .any, .any, .any, .any, .any, .any, .any, .any, .any, .any, .any, .any, .any, .any, .any, .any, .any, .any, .any, .any, .any, .any, .any, .any, .any, .any, .any, .any, .any, .any, .any, .any, .any, .any, .any, .any, .any, .bool false, .tuple [], .tuple [], .tuple [], .tuple [], .tuple [], .tuple [], .tuple [], .tuple [], .tuple [], .tuple [], .tuple [], .tuple [], .tuple [], .tuple [], .tuple [], .tuple [], .tuple [], .tuple [], .tuple [], .tuple [], .tuple [], .tuple [], .tuple [], .tuple [], .tuple [], .tuple []], [.cells [.list ((lrnL k).map encQ), .int .i64 (lrnE k)], .cells [.int .i64 (losN cost), .int .i64 (losD cost), .int .i64 (losE cost)], .row 3 [.agg [.int .i64 5, .int .i64 (1073741824 - (far % 2)), .int .i64 0]] 0, .cells [.list ((lr2L far).map encQ), .int .i64 (lr2E far)], .cells [.list (([] : List An).map encQ), .int .i64 2]]⟩) (e := .normal) (ob := [∀ e ∈ ([.agg [.int .i64 5, .int .i64 (1073741824 - (far % 2)), .int .i64 0]] : List AV), belowV 5 e = true,
        (.bool ((lrnE k) == 1) : AV) = (.bool true : AV),
        (.bool (decide (k < 1)) : AV) = (.bool true : AV),
        (.bool (!(true == true)) : AV) = (.bool false : AV),
        (.bool ((losE cost) == 1) : AV) = (.bool false : AV),
        (.bool (decide (cost < 0)) : AV) = (.bool false : AV),
        (.bool (decide (cost > 1073741824)) : AV) = (.bool false : AV),
        (.bool (!(false == false)) : AV) = (.bool false : AV),
        (.bool ((lr2E far) == 2) : AV) = (.bool false : AV),
        (.int .u8 (far.tmod 2) : AV) = (.int .u8 (far % 2) : AV),
        (2 : Int) ≠ 0,
        (.bool ((far % 2) == 0) : AV) = (.bool false : AV),
        (.bool (!(false == false)) : AV) = (.bool false : AV),
        (.bool (2 != 2) : AV) = (.bool false : AV)]) (by kernel_rfl) ⟨(by simp [belowV, idsOf, idsL]), (eT (by simp [lrnE, *])), (bT q1), bneB rfl rfl, (eF (by simp [losE, *])), (bF q2), (bF q3), bneB rfl rfl, (eF (by simp [lr2E, *])), iI (Int.tmod_eq_emod_of_nonneg (by omega)), (by decide), (eF (by omega)), bneB rfl rfl, (nF (by omega)), trivial⟩ ?_
            exact rfl
    · by_cases q2 : k > 14
      · by_cases q3 : cost < 0
        · by_cases q4 : far % 2 = 0
          · refine Ok.evf (by kernel_rfl) 400 [.d, .d, .v (.bool true), .d, .v (.bool false), .d, .d, .v (.bool true), .d, .v (.bool false), .d, .d, .d, .v (.bool true), .d, .v (.bool true), .d, .d, .d, .d, .v (.bool false), .d, .d, .d, .d, .v (.bool true), .d, .v (.int .u8 (far % 2)), .v (.bool true), .v (.bool false), .d, .d, .d, .d, .v (.bool false), .d] [6, 7, 13, 14, 68, 69, 70, 71, 72, 73, 74, 75, 76, 77, 78, 79, 80, 81, 82, 83, 84, 85, 86, 87, 88, 89, 90, 91, 92, 93, 94] 5 (st' := ⟨[.any, .any, .any, .any, .any, .any, .bool false, .bool true, .any, .any, .any, .any, .any, .tuple [], .tuple [], .any, .any, .any, .any, .any, .any, .any, .any, .any, .any, .any, .any, .any, .any, .any, .any, .any, .any, .any, .any, .any, .any, .any, .any, .any, .any, .any, .any, .any, .any, .any, .any, .any, .any, .any, .any, .any, .any, .any, .any, .any, .any, .any, .any, .any, .any, .any, .any, .any, .any, .any, .any, .any, .bool false, .tuple [], .tuple [], .tuple [], .tuple [], .tuple [], .tuple [], .tuple [], .tuple [], .tuple [], .tuple [], .tuple [], .tuple [], .tuple [], .tuple [], .tuple [], .tuple [], .tuple [], .tuple [], .tuple [], .tuple [], .tuple [], .tuple [], .tuple [], .tuple [], .tuple [], .tuple []], [.cells [.list ((lrnL k).map encQ), .int .i64 (lrnE k)], .cells [.int .i64 (losN cost), .int .i64 (losD cost), .int .i64 (losE cost)], .row 3 [.agg [.int .i64 5, .int .i64 (1073741824 - (far % 2)), .int .i64 0]] 0, .cells [.list ((lr2L far).map encQ), .int .i64 (lr2E far)], .cells [.list (([] : List An).map encQ), .int .i64 2]]⟩) (e := .normal) (ob := [∀ e ∈ ([.agg [.int .i64 5, .int .i64 (1073741824 - (far % 2)), .int .i64 0]] : List AV), belowV 5 e = true,
        (.bool ((lrnE k) == 1) : AV) = (.bool true : AV),
        (.bool (decide (k < 1)) : AV) = (.bool false : AV),
        (.bool (decide (k > 14)) : AV) = (.bool true : AV),
        (.bool (!(true == true)) : AV) = (.bool false : AV),
        (.bool ((losE cost) == 1) : AV) = (.bool true : AV),
        (.bool (decide (cost < 0)) : AV) = (.bool true : AV),
        (.bool (!(true == true)) : AV) = (.bool false : AV),
        (.bool ((lr2E far) == 2) : AV) = (.bool true : AV),
        (.int .u8 (far.tmod 2) : AV) = (.int .u8 (far % 2) : AV),
        (2 : Int) ≠ 0,
        (.bool ((far % 2) == 0) : AV) = (.bool true : AV),
        (.bool (!(true == true)) : AV) = (.bool false : AV),
        (.bool (2 != 2) : AV) = (.bool false : AV)]) (by kernel_rfl) ⟨(by simp [belowV, idsOf, idsL]), (eT (by simp [lrnE, *])), (bF q1), (bT q2), bneB rfl rfl, (eT (by simp [losE, *])), (bT q3), bneB rfl rfl, (eT (by simp [lr2E, *])), iI (Int.tmod_eq_emod_of_nonneg (by omega)), (by decide), (eT (by omega)), bneB rfl rfl, (nF (by omega)), trivial⟩ ?_
            exact rfl
          · refine Ok.evf (by kernel_rfl) 400 [.d, .d, .v (.bool true), .d, .v (.bool false), .d, .d, .v (.bool true), .d, .v (.bool false), .d, .d, .d, .v (.bool true), .d, .v (.bool true), .d, .d, .d, .d, .v (.bool false), .d, .d, .d, .d, .v (.bool false), .d, .v (.int .u8 (far % 2)), .v (.bool false), .v (.bool false), .d, .d, .d, .d, .v (.bool false), .d] [6, 7, 13, 14, 68, 69, 70, 71, 72, 73, 74, 75, 76, 77, 78, 79, 80, 81, 82, 83, 84, 85, 86, 87, 88, 89, 90, 91, 92, 93, 94] 5 (st' := ⟨[.any, .any, .any, .any, .any, .any, .bool false, .bool true, .any, .any, .any, .any, .any, .tuple [], .tuple [], .any, .any, .any, .any, .any, .any, .any, .any, .any, .any, .any, .any, .any, .any, .any, .any, .any, .any, .any, .any, .any, .any, .any, .any, .any, .any, .any, .any, .any, .any, .any, .any, .any, .any, .any, .any, .any, .any, .any, .any, .any, .any, .any, .any, .any, .any, .any, .any, .any, .any, .any, .any, .any, .bool false, .tuple [], .tuple [], .tuple [], .tuple [], .tuple [], .tuple [], .tuple [], .tuple [], .tuple [], .tuple [], .tuple [], .tuple [], .tuple [], .tuple [], .tuple [], .tuple [], .tuple [], .tuple [], .tuple [], .tuple [], .tuple [], .tuple [], .tuple [], .tuple [], .tuple [], .tuple []], [.cells [.list ((lrnL k).map encQ), .int .i64 (lrnE k)], .cells [.int .i64 (losN cost), .int .i64 (losD cost), .int .i64 (losE cost)], .row 3 [.agg [.int .i64 5, .int .i64 (1073741824 - (far % 2)), .int .i64 0]] 0, .cells [.list ((lr2L far).map encQ), .int .i64 (lr2E far)], .cells [.list (([] : List An).map encQ), .int .i64 2]]⟩) (e := .normal) (ob := [∀ e ∈ ([.agg [.int .i64 5, .int .i64 (1073741824 - (far % 2)), .int .i64 0]] : List AV), belowV 5 e = true,
        (.bool ((lrnE k) == 1) : AV) = (.bool true : AV),
        (.bool (decide (k < 1)) : AV) = (.bool false : AV),
        (.bool (decide (k > 14)) : AV) = (.bool true : AV),
        (.bool (!(true == true)) : AV) = (.bool false : AV),
        (.bool ((losE cost) == 1) : AV) = (.bool true : AV),
        (.bool (decide (cost < 0)) : AV) = (.bool true : AV),
        (.bool (!(true == true)) : AV) = (.bool false : AV),
        (.bool ((lr2E far) == 2) : AV) = (.bool false : AV),
        (.int .u8 (far.tmod 2) : AV) = (.int .u8 (far % 2) : AV),
        (2 : Int) ≠ 0,
        (.bool ((far % 2) == 0) : AV) = (.bool false : AV),
        (.bool (!(false == false)) : AV) = (.bool false : AV),
        (.bool (2 != 2) : AV) = (.bool false : AV)]) (by kernel_rfl) ⟨(by simp [belowV, idsOf, idsL]), (eT (by simp [lrnE, *])), (bF q1), (bT q2), bneB rfl rfl, (eT (by simp [losE, *])), (bT q3), bneB rfl rfl, (eF (by simp [lr2E, *])), iI (Int.tmod_eq_emod_of_nonneg (by omega)), (by decide), (eF (by omega)), bneB rfl rfl, (nF (by omega)), trivial⟩ ?_
            exact rfl
        · by_cases q4 : cost > 1073741824
          · by_cases q5 : far % 2 = 0
            · refine Ok.evf (by kernel_rfl) 400 [.d, .d, .v (.bool true), .d, .v (.bool false), .d, .d, .v (.bool true), .d, .v (.bool false), .d, .d, .d, .v (.bool true), .d, .v (.bool false), .d, .d, .v (.bool true), .d, .v (.bool false), .d, .d, .d, .d, .v (.bool true), .d, .v (.int .u8 (far % 2)), .v (.bool true), .v (.bool false), .d, .d, .d, .d, .v (.bool false), .d] [6, 7, 13, 14, 68, 69, 70, 71, 72, 73, 74, 75, 76, 77, 78, 79, 80, 81, 82, 83, 84, 85, 86, 87, 88, 89, 90, 91, 92, 93, 94] 5 (st' := ⟨[.any, .any, .any, .any, .any, .any, .bool false, .bool true, .any, .any, .any, .any, .any, .tuple [], .tuple [], .any, .any, .any, .any, .any, .any, .any, .any, .any, .any, .any, .any, .any, .any, .any, .any, .any, .any, .any, .any, .any, .any, .any, .any, .any, .any, .any, .any, .any, .any, .any, .any, .any, .any, .any, .any, .any, .any, .any, .any, .any, .any, .any, .any, .any, .any, .any, .any, .any, .any, .any, .any, .any, .bool false, .tuple [], .tuple [], .tuple [], .tuple [], .tuple [], .tuple [], .tuple [], .tuple [], .tuple [], .tuple [], .tuple [], .tuple [], .tuple [], .tuple [], .tuple [], .tuple [], .tuple [], .tuple [], .tuple [], .tuple [], .tuple [], .tuple [], .tuple [], .tuple [], .tuple [], .tuple []], [.cells [.list ((lrnL k).map encQ), .int .i64 (lrnE k)], .cells [.int .i64 (losN cost), .int .i64 (losD cost), .int .i64 (losE cost)], .row 3 [.agg [.int .i64 5, .int .i64 (1073741824 - (far % 2)), .int .i64 0]] 0, .cells [.list ((lr2L far).map encQ), .int .i64 (lr2E far)], .cells [.list (([] : List An).map encQ), .int .i64 2]]⟩) (e := .normal) (ob := [∀ e ∈ ([.agg [.int .i64 5, .int .i64 (1073741824 - (far % 2)), .int .i64 0]] : List AV), belowV 5 e = true,
        (.bool ((lrnE k) == 1) : AV) = (.bool true : AV),
        (.bool (decide (k < 1)) : AV) = (.bool false : AV),
        (.bool (decide (k > 14)) : AV) = (.bool true : AV),
        (.bool (!(true == true)) : AV) = (.bool false : AV),
        (.bool ((losE cost) == 1) : AV) = (.bool true : AV),
        (.bool (decide (cost < 0)) : AV) = (.bool false : AV),
        (.bool (decide (cost > 1073741824)) : AV) = (.bool true : AV),
        (.bool (!(true == true)) : AV) = (.bool false : AV),
        (.bool ((lr2E far) == 2) : AV) = (.bool true : AV),
        (.int .u8 (far.tmod 2) : AV) = (.int .u8 (far % 2) : AV),
        (2 : Int) ≠ 0,
        (.bool ((far % 2) == 0) : AV) = (.bool true : AV),
        (.bool (!(true == true)) : AV) = (.bool false : AV),
        (.bool (2 != 2) : AV) = (.bool false : AV)]) (by kernel_rfl) ⟨(by simp [belowV, idsOf, idsL]), (eT (by simp [lrnE, *])), (bF q1), (bT q2), bneB rfl rfl, (eT (by simp [losE, *])), (bF q3), (bT q4), bneB rfl rfl, (eT (by simp [lr2E, *])), iI (Int.tmod_eq_emod_of_nonneg (by omega)), (by decide), (eT (by omega)), bneB rfl rfl, (nF (by omega)), trivial⟩ ?_
              exact rfl
            · refine Ok.evf (by kernel_rfl) 400 [.d, .d, .v (.bool true), .d, .v (.bool false), .d, .d, .v (.bool true), .d, .v (.bool false), .d, .d, .d, .v (.bool true), .d, .v (.bool false), .d, .d, .v (.bool true), .d, .v (.bool false), .d, .d, .d, .d, .v (.bool false), .d, .v (.int .u8 (far % 2)), .v (.bool false), .v (.bool false), .d, .d, .d, .d, .v (.bool false), .d] [6, 7, 13, 14, 68, 69, 70, 71, 72, 73, 74, 75, 76, 77, 78, 79, 80, 81, 82, 83, 84, 85, 86, 87, 88, 89, 90, 91, 92, 93, 94] 5 (st' := ⟨[.any, .any, .any, .any, .any, .any, .bool false, .bool true, .any, .any, .any, .any, .any, .tuple [], .tuple [], .any, .any, .any, .any, .any, .any, .any, .any, .any, .any, .any, .any, .any, .any, .any, .any, .any, .any, .any, .any, .any, .any, .any, .any, .any, .any, .any, .any, .any, .any, .any, .any, .any, .any, .any, .any, .any, .any, .any, .any, .any, .any, .any, .any, .any, .any, .any, .any, .any, .any, .any, .any, .any, .bool false, .tuple [], .tuple [], .tuple [], .tuple [], .tuple [], .tuple [], .tuple [], .tuple [], .tuple [], .tuple [], .tuple [], .tuple [], .tuple [], .tuple [], .tuple [], .tuple [], .tuple [], .tuple [], .tuple [], .tuple [], .tuple [], .tuple [], .tuple [], .tuple [], .tuple [], .tuple []], [.cells [.list ((lrnL k).map encQ), .int .i64 (lrnE k)], .cells [.int .i64 (losN cost), .int .i64 (losD cost), .int .i64 (losE cost)], .row 3 [.agg [.int .i64 5, .int .i64 (1073741824 - (far % 2)), .int .i64 0]] 0, .cells [.list ((lr2L far).map encQ), .int .i64 (lr2E far)], .cells [.list (([] : List An).map encQ), .int .i64 2]]⟩) (e := .normal) (ob := [∀ e ∈ ([.agg [.int .i64 5, .int .i64 (1073741824 - (far % 2)), .int .i64 0]] : List AV), belowV 5 e = true,
        (.bool ((lrnE k) == 1) : AV) = (.bool true : AV),
        (.bool (decide (k < 1)) : AV) = (.bool false : AV),
        (.bool (decide (k > 14)) : AV) = (.bool true : AV),
        (.bool (!(true == true)) : AV) = (.bool false : AV),
        (.bool ((losE cost) == 1) : AV) = (.bool true : AV),
        (.bool (decide (cost < 0)) : AV) = (.bool false : AV),
        (.bool (decide (cost > 1073741824)) : AV) = (.bool true : AV),
        (.bool (!(true == true)) : AV) = (.bool false : AV),
        (.bool ((lr2E far) == 2) : AV) = (.bool false : AV),
        (.int .u8 (far.tmod 2) : AV) = (.int .u8 (far % 2) : AV),
        (2 : Int) ≠ 0,
        (.bool ((far % 2) == 0) : AV) = (.bool false : AV),
        (.bool (!(false == false)) : AV) = (.bool false : AV),
        (.bool (2 != 2) : AV) = (.bool false : AV)]) (by kernel_rfl) ⟨(by simp [belowV, idsOf, idsL]), (eT (by simp [lrnE, *])), (bF q1), (bT q2), bneB rfl rfl, (eT (by simp [losE, *])), (bF q3), (bT q4), bneB rfl rfl, (eF (by simp [lr2E, *])), iI (Int.tmod_eq_emod_of_nonneg (by omega)), (by decide), (eF (by omega)), bneB rfl rfl, (nF (by omega)), trivial⟩ ?_
              exact rfl
          · by_cases q5 : far % 2 = 0
            · refine Ok.evf (by kernel_rfl) 400 [.d, .d, .v (.bool true), .d, .v (.bool false), .d, .d, .v (.bool true), .d, .v (.bool false), .d, .d, .d, .v (.bool false), .d, .v (.bool false), .d, .d, .v (.bool false), .d, .v (.bool false), .d, .d, .d, .d, .v (.bool true), .d, .v (.int .u8 (far % 2)), .v (.bool true), .v (.bool false), .d, .d, .d, .d, .v (.bool false), .d] [6, 7, 13, 14, 68, 69, 70, 71, 72, 73, 74, 75, 76, 77, 78, 79, 80, 81, 82, 83, 84, 85, 86, 87, 88, 89, 90, 91, 92, 93, 94] 5 (st' := ⟨[.any, .any, .any, .any, .any, .any, .bool false, .bool true, .any, .any, .any, .any, .any, .tuple [], .tuple [], .any, .any, .any, .any, .any, .any, .any, .any, .any, .any, .any, .any, .any, .any, .any, .any, .any, .any, .any, .any, .any, .any, .any, .any, .any, .any, .any, .any, .any, .any, .any, .any, .any, .any, .any, .any, .any, .any, .any, .any, .any, .any, .any, .any, .any, .any, .any, .any, .any, .any, .any, .any, .any, .bool false, .tuple [], .tuple [], .tuple [], .tuple [], .tuple [], .tuple [], .tuple [], .tuple [], .tuple [], .tuple [], .tuple [], .tuple [], .tuple [], .tuple [], .tuple [], .tuple [], .tuple [], .tuple [], .tuple [], .tuple [], .tuple [], .tuple [], .tuple [], .tuple [], .tuple [], .tuple []], [.cells [.list ((lrnL k).map encQ), .int .i64 (lrnE k)], .cells [.int .i64 (losN cost), .int .i64 (losD cost), .int .i64 (losE cost)], .row 3 [.agg [.int .i64 5, .int .i64 (1073741824 - (far % 2)), .int .i64 0]] 0, .cells [.list ((lr2L far).map encQ), .int .i64 (lr2E far)], .cells [.list (([] : List An).map encQ), .int .i64 2]]⟩) (e := .normal) (ob := [∀ e ∈ ([.agg [.int .i64 5, .int .i64 (1073741824 - (far % 2)), .int .i64 0]] : List AV), belowV 5 e = true,
        (.bool ((lrnE k) == 1) : AV) = (.bool true : AV),
        (.bool (decide (k < 1)) : AV) = (.bool false : AV),
        (.bool (decide (k > 14)) : AV) = (.bool true : AV),
        (.bool (!(true == true)) : AV) = (.bool false : AV),
        (.bool ((losE cost) == 1) : AV) = (.bool false : AV),
        (.bool (decide (cost < 0)) : AV) = (.bool false : AV),
        (.bool (decide (cost > 1073741824)) : AV) = (.bool false : AV),
        (.bool (!(false == false)) : AV) = (.bool false : AV),
        (.bool ((lr2E far) == 2) : AV) = (.bool true : AV),
        (.int .u8 (far.tmod 2) : AV) = (.int .u8 (far % 2) : AV),
        (2 : Int) ≠ 0,
        (.bool ((far % 2) == 0) : AV) = (.bool true : AV),
        (.bool (!(true == true)) : AV) = (.bool false : AV),
        (.bool (2 != 2) : AV) = (.bool false : AV)]) (by kernel_rfl) ⟨(by simp [belowV, idsOf, idsL]), (eT (by simp [lrnE, *])), (bF q1), (bT q2), bneB rfl rfl, (eF (by simp [losE, *])), (bF q3), (bF q4), bneB rfl rfl, (eT (by simp [lr2E, *])), iI (Int.tmod_eq_emod_of_nonneg (by omega)), (by decide), (eT (by omega)), bneB rfl rfl, (nF (by omega)), trivial⟩ ?_
              exact rfl
            · refine Ok.evf (by kernel_rfl) 400 [.d, .d, .v (.bool true), .d, .v (.bool false), .d, .d, .v (.bool true), .d, .v (.bool false), .d, .d, .d, .v (.bool false), .d, .v (.bool false), .d, .d, .v (.bool false), .d, .v (.bool false), .d, .d, .d, .d, .v (.bool false), .d, .v (.int .u8 (far % 2)), .v (.bool false), .v (.bool false), .d, .d, .d, .d, .v (.bool false), .d] [6, 7, 13, 14, 68, 69, 70, 71, 72, 73, 74, 75, 76, 77, 78, 79, 80, 81, 82, 83, 84, 85, 86, 87, 88, 89, 90, 91, 92, 93, 94] 5 (st' := ⟨[.any, .any, .any, .any, .any, .any, .bool false, .bool true, .any, .any, .any, .any, .any, .tuple [], .tuple [], .any, .any, .any, .any, .any, .any, .any, .any, .any, .any, .any, .any, .any, .any, .any, .any, .any, .any, .any, .any, .any, .any, .any, .any, .any, .any, .any, .any, .any, .any, .any, .any, .any, .any, .any, .any, .any, .any, .any, .any, .any, .any, .any, .any, .any, .any, .any, .any, .any, .any, .any, .any, .any, .bool false, .tuple [], .tuple [], .tuple [], .tuple [], .tuple [], .tuple [], .tuple [], .tuple [], .tuple [], .tuple [], .tuple [], .tuple [], .tuple [], .tuple [], .tuple [], .tuple [], .tuple [], .tuple [], .tuple [], .tuple [], .tuple [], .tuple [], .tuple [], .tuple [], .tuple [], .tuple []], [.cells [.list ((lrnL k).map encQ), .int .i64 (lrnE k)], .cells [.int .i64 (losN cost), .int .i64 (losD cost), .int .i64 (losE cost)], .row 3 [.agg [.int .i64 5, .int .i64 (1073741824 - (far % 2)), .int .i64 0]] 0, .cells [.list ((lr2L far).map encQ), .int .i64 (lr2E far)], .cells [.list (([] : List An).map encQ), .int .i64 2]]⟩) (e := .normal) (ob := [∀ e ∈ ([.agg [.int .i64 5, .int .i64 (1073741824 - (far % 2)), .int .i64 0]] : List AV), belowV 5 e = true,
        (.bool ((lrnE k) == 1) : AV) = (.bool true : AV),
        (.bool (decide (k < 1)) : AV) = (.bool false : AV),
        (.bool (decide (k > 14)) : AV) = (.bool true : AV),
        (.bool (!(true == true)) : AV) = (.bool false : AV),
        (.bool ((losE cost) == 1) : AV) = (.bool false : AV),
        (.bool (decide (cost < 0)) : AV) = (.bool false : AV),
        (.bool (decide (cost > 1073741824)) : AV) = (.bool false : AV),
        (.bool (!(false == false)) : AV) = (.bool false : AV),
        (.bool ((lr2E far) == 2) : AV) = (.bool false : AV),
        (.int .u8 (far.tmod 2) : AV) = (.int .u8 (far % 2) : AV),
        (2 : Int) ≠ 0,
        (.bool ((far % 2) == 0) : AV) = (.bool false : AV),
        (.bool (!(false == false)) : AV) = (.bool false : AV),
        (.bool (2 != 2) : AV) = (.bool false : AV)]) (by kernel_rfl) ⟨(by simp [belowV, idsOf, idsL]), (eT (by simp [lrnE, *])), (bF q1), (bT q2), bneB rfl rfl, (eF (by simp [losE, *])), (bF q3), (bF q4), bneB rfl rfl, (eF (by simp [lr2E, *])), iI (Int.tmod_eq_emod_of_nonneg (by omega)), (by decide), (eF (by omega)), bneB rfl rfl, (nF (by omega)), trivial⟩ ?_
              exact rfl
      · by_cases q3 : cost < 0
        · by_cases q4 : far % 2 = 0
          · refine Ok.evf (by kernel_rfl) 400 [.d, .d, .v (.bool false), .d, .v (.bool false), .d, .d, .v (.bool false), .d, .v (.bool false), .d, .d, .d, .v (.bool true), .d, .v (.bool true), .d, .d, .d, .d, .v (.bool false), .d, .d, .d, .d, .v (.bool true), .d, .v (.int .u8 (far % 2)), .v (.bool true), .v (.bool false), .d, .d, .d, .d, .v (.bool false), .d] [6, 7, 13, 14, 68, 69, 70, 71, 72, 73, 74, 75, 76, 77, 78, 79, 80, 81, 82, 83, 84, 85, 86, 87, 88, 89, 90, 91, 92, 93, 94] 5 (st' := ⟨[.any, .any, .any, .any, .any, .any, .bool false, .bool true, .any, .any, .any, .any, .any, .tuple [], .tuple [], .any, .any, .any, .any, .any, .any, .any, .any, .any, .any, .any, .any, .any, .any, .any, .any, .any, .any, .any, .any, .any, .any, .any, .any, .any, .any, .any, .any, .any, .any, .any, .any, .any, .any, .any, .any, .any, .any, .any, .any, .any, .any, .any, .any, .any, .any, .any, .any, .any, .any, .any, .any, .any, .bool false, .tuple [], .tuple [], .tuple [], .tuple [], .tuple [], .tuple [], .tuple [], .tuple [], .tuple [], .tuple [], .tuple [], .tuple [], .tuple [], .tuple [], .tuple [], .tuple [], .tuple [], .tuple [], .tuple [], .tuple [], .tuple [], .tuple [], .tuple [], .tuple [], .tuple [], .tuple []], [.cells [.list ((lrnL k).map encQ), .int .i64 (lrnE k)], .cells [.int .i64 (losN cost), .int .i64 (losD cost), .int .i64 (losE cost)], .row 3 [.agg [.int .i64 5, .int .i64 (1073741824 - (far % 2)), .int .i64 0]] 0, .cells [.list ((lr2L far).map encQ), .int .i64 (lr2E far)], .cells [.list (([] : List An).map encQ), .int .i64 2]]⟩) (e := .normal) (ob := [∀ e ∈ ([.agg [.int .i64 5, .int .i64 (1073741824 - (far % 2)), .int .i64 0]] : List AV), belowV 5 e = true,
        (.bool ((lrnE k) == 1) : AV) = (.bool false : AV),
        (.bool (decide (k < 1)) : AV) = (.bool false : AV),
        (.bool (decide (k > 14)) : AV) = (.bool false : AV),
        (.bool (!(false == false)) : AV) = (.bool false : AV),
        (.bool ((losE cost) == 1) : AV) = (.bool true : AV),
        (.bool (decide (cost < 0)) : AV) = (.bool true : AV),
        (.bool (!(true == true)) : AV) = (.bool false : AV),
        (.bool ((lr2E far) == 2) : AV) = (.bool true : AV),
        (.int .u8 (far.tmod 2) : AV) = (.int .u8 (far % 2) : AV),
        (2 : Int) ≠ 0,
        (.bool ((far % 2) == 0) : AV) = (.bool true : AV),
        (.bool (!(true == true)) : AV) = (.bool false : AV),
        (.bool (2 != 2) : AV) = (.bool false : AV)]) (by kernel_rfl) ⟨(by simp [belowV, idsOf, idsL]), (eF (by simp [lrnE, *])), (bF q1), (bF q2), bneB rfl rfl, (eT (by simp [losE, *])), (bT q3), bneB rfl rfl, (eT (by simp [lr2E, *])), iI (Int.tmod_eq_emod_of_nonneg (by omega)), (by decide), (eT (by omega)), bneB rfl rfl, (nF (by omega)), trivial⟩ ?_
            exact rfl
          · refine Ok.evf (by kernel_rfl) 400 [.d, .d, .v (.bool false), .d, .v (.bool false), .d, .d, .v (.bool false), .d, .v (.bool false), .d, .d, .d, .v (.bool true), .d, .v (.bool true), .d, .d, .d, .d, .v (.bool false), .d, .d, .d, .d, .v (.bool false), .d, .v (.int .u8 (far % 2)), .v (.bool false), .v (.bool false), .d, .d, .d, .d, .v (.bool false), .d] [6, 7, 13, 14, 68, 69, 70, 71, 72, 73, 74, 75, 76, 77, 78, 79, 80, 81, 82, 83, 84, 85, 86, 87, 88, 89, 90, 91, 92, 93, 94] 5 (st' := ⟨[.any, .any, .any, .any, .any, .any, .bool false, .bool true, .any, .any, .any, .any, .any, .tuple [], .tuple [], .any, .any, .any, .any, .any, .any, .any, .any, .any, .any, .any, .any, .any, .any, .any, .any, .any, .any, .any, .any, .any, .any, .any, .any, .any, .any, .any, .any, .any, .any, .any, .any, .any, .any, .any, .any, .any, .any, .any, .any, .any, .any, .any, .any, .any, .any, .any, .any, .any, .any, .any, .any, .any, .bool false, .tuple [], .tuple [], .tuple [], .tuple [], .tuple [], .tuple [], .tuple [], .tuple [], .tuple [], .tuple [], .tuple [], .tuple [], .tuple [], .tuple [], .tuple [], .tuple [], .tuple [], .tuple [], .tuple [], .tuple [], .tuple [], .tuple [], .tuple [], .tuple [], .tuple [], .tuple []], [.cells [.list ((lrnL k).map encQ), .int .i64 (lrnE k)], .cells [.int .i64 (losN cost), .int .i64 (losD cost), .int .i64 (losE cost)], .row 3 [.agg [.int .i64 5, .int .i64 (1073741824 - (far % 2)), .int .i64 0]] 0, .cells [.list ((lr2L far).map encQ), .int .i64 (lr2E far)], .cells [.list (([] : List An).map encQ), .int .i64 2]]⟩) (e := .normal) (ob := [∀ e ∈ ([.agg [.int .i64 5, .int .i64 (1073741824 - (far % 2)), .int .i64 0]] : List AV), belowV 5 e = true,
        (.bool ((lrnE k) == 1) : AV) = (.bool false : AV),
        (.bool (decide (k < 1)) : AV) = (.bool false : AV),
        (.bool (decide (k > 14)) : AV) = (.bool false : AV),
        (.bool (!(false == false)) : AV) = (.bool false : AV),
        (.bool ((losE cost) == 1) : AV) = (.bool true : AV),
        (.bool (decide (cost < 0)) : AV) = (.bool true : AV),
        (.bool (!(true == true)) : AV) = (.bool false : AV),
        (.bool ((lr2E far) == 2) : AV) = (.bool false : AV),
        (.int .u8 (far.tmod 2) : AV) = (.int .u8 (far % 2) : AV),
        (2 : Int) ≠ 0,
        (.bool ((far % 2) == 0) : AV) = (.bool false : AV),
        (.bool (!(false == false)) : AV) = (.bool false : AV),
        (.bool (2 != 2) : AV) = (.bool false : AV)]) (by kernel_rfl) ⟨(by simp [belowV, idsOf, idsL]), (eF (by simp [lrnE, *])), (bF q1), (bF q2), bneB rfl rfl, (eT (by simp [losE, *])), (bT q3), bneB rfl rfl, (eF (by simp [lr2E, *])), iI (Int.tmod_eq_emod_of_nonneg (by omega)), (by decide), (eF (by omega)), bneB rfl rfl, (nF (by omega)), trivial⟩ ?_
            exact rfl
        · by_cases q4 : cost > 1073741824
          · by_cases q5 : far % 2 = 0
            · refine Ok.evf (by kernel_rfl) 400 [.d, .d, .v (.bool false), .d, .v (.bool false), .d, .d, .v (.bool false), .d, .v (.bool false), .d, .d, .d, .v (.bool true), .d, .v (.bool false), .d, .d, .v (.bool true), .d, .v (.bool false), .d, .d, .d, .d, .v (.bool true), .d, .v (.int .u8 (far % 2)), .v (.bool true), .v (.bool false), .d, .d, .d, .d, .v (.bool false), .d] [6, 7, 13, 14, 68, 69, 70, 71, 72, 73, 74, 75, 76, 77, 78, 79, 80, 81, 82, 83, 84, 85, 86, 87, 88, 89, 90, 91, 92, 93, 94] 5 (st' := ⟨[.any, .any, .any, .any, .any, .any, .bool false, .bool true, .any, .any, .any, .any, .any, .tuple [], .tuple [], .any, .any, .any, .any, .any, .any, .any, .any, .any, .any, .any, .any, .any, .any, .any, .any, .any, .any, .any, .any, .any, .any, .any, .any, .any, .any, .any, .any, .any, .any, .any, .any, .any, .any, .any, .any, .any, .any, .any, .any, .any, .any, .any, .any, .any, .any, .any, .any, .any, .any, .any, .any, .any, .bool false, .tuple [], .tuple [], .tuple [], .tuple [], .tuple [], .tuple [], .tuple [], .tuple [], .tuple [], .tuple [], .tuple [], .tuple [], .tuple [], .tuple [], .tuple [], .tuple [], .tuple [], .tuple [], .tuple [], .tuple [], .tuple [], .tuple [], .tuple [], .tuple [], .tuple [], .tuple []], [.cells [.list ((lrnL k).map encQ), .int .i64 (lrnE k)], .cells [.int .i64 (losN cost), .int .i64 (losD cost), .int .i64 (losE cost)], .row 3 [.agg [.int .i64 5, .int .i64 (1073741824 - (far % 2)), .int .i64 0]] 0, .cells [.list ((lr2L far).map encQ), .int .i64 (lr2E far)], .cells [.list (([] : List An).map encQ), .int .i64 2]]⟩) (e := .normal) (ob := [∀ e ∈ ([.agg [.int .i64 5, .int .i64 (1073741824 - (far % 2)), .int .i64 0]] : List AV), belowV 5 e = true,
        (.bool ((lrnE k) == 1) : AV) = (.bool false : AV),
        (.bool (decide (k < 1)) : AV) = (.bool false : AV),
        (.bool (decide (k > 14)) : AV) = (.bool false : AV),
        (.bool (!(false == false)) : AV) = (.bool false : AV),
        (.bool ((losE cost) == 1) : AV) = (.bool true : AV),
        (.bool (decide (cost < 0)) : AV) = (.bool false : AV),
        (.bool (decide (cost > 1073741824)) : AV) = (.bool true : AV),
        (.bool (!(true == true)) : AV) = (.bool false : AV),
        (.bool ((lr2E far) == 2) : AV) = (.bool true : AV),
        (.int .u8 (far.tmod 2) : AV) = (.int .u8 (far % 2) : AV),
        (2 : Int) ≠ 0,
        (.bool ((far % 2) == 0) : AV) = (.bool true : AV),
        (.bool (!(true == true)) : AV) = (.bool false : AV),
        (.bool (2 != 2) : AV) = (.bool false : AV)]) (by kernel_rfl) ⟨(by simp [belowV, idsOf, idsL]), (eF (by simp [lrnE, *])), (bF q1), (bF q2), bneB rfl rfl, (eT (by simp [losE, *])), (bF q3), (bT q4), bneB rfl rfl, (eT (by simp [lr2E, *])), iI (Int.tmod_eq_emod_of_nonneg (by omega)), (by decide), (eT (by omega)), bneB rfl rfl, (nF (by omega)), trivial⟩ ?_
              exact rfl
            · refine Ok.evf (by kernel_rfl) 400 [.d, .d, .v (.bool false), .d, .v (.bool false), .d, .d, .v (.bool false), .d, .v (.bool false), .d, .d, .d, .v (.bool true), .d, .v (.bool false), .d, .d, .v (.bool true), .d, .v (.bool false), .d, .d, .d, .d, .v (.bool false), .d, .v (.int .u8 (far % 2)), .v (.bool false), .v (.bool false), .d, .d, .d, .d, .v (.bool false), .d] [6, 7, 13, 14, 68, 69, 70, 71, 72, 73, 74, 75, 76, 77, 78, 79, 80, 81, 82, 83, 84, 85, 86, 87, 88, 89, 90, 91, 92, 93, 94] 5 (st' := ⟨[.any, .any, .any, .any, .any, .any, .bool false, .bool true, .any, .any, .any, .any, .any, .tuple [], .tuple [], .any, .any, .any, .any, .any, .any, .any, .any, .any, .any, .any, .any, .any, .any, .any, .any, .any, .any, .any, .any, .any, .any, .any, .any, .any, .any, .any, .any, .any, .any, .any, .any, .any, .any, .any, .any, .any, .any, .any, .any, .any, .any, .any, .any, .any, .any, .any, .any, .any, .any, .any, .any, .any, .bool false, .tuple [], .tuple [], .tuple [], .tuple [], .tuple [], .tuple [], .tuple [], .tuple [], .tuple [], .tuple [], .tuple [], .tuple [], .tuple [], .tuple [], .tuple [], .tuple [], .tuple [], .tuple [], .tuple [], .tuple [], .tuple [], .tuple [], .tuple [], .tuple [], .tuple [], .tuple []], [.cells [.list ((lrnL k).map encQ), .int .i64 (lrnE k)], .cells [.int .i64 (losN cost), .int .i64 (losD cost), .int .i64 (losE cost)], .row 3 [.agg [.int .i64 5, .int .i64 (1073741824 - (far % 2)), .int .i64 0]] 0, .cells [.list ((lr2L far).map encQ), .int .i64 (lr2E far)], .cells [.list (([] : List An).map encQ), .int .i64 2]]⟩) (e := .normal) (ob := [∀ e ∈ ([.agg [.int .i64 5, .int .i64 (1073741824 - (far % 2)), .int .i64 0]] : List AV), belowV 5 e = true,
        (.bool ((lrnE k) == 1) : AV) = (.bool false : AV),
        (.bool (decide (k < 1)) : AV) = (.bool false : AV),
        (.bool (decide (k > 14)) : AV) = (.bool false : AV),
        (.bool (!(false == false)) : AV) = (.bool false : AV),
        (.bool ((losE cost) == 1) : AV) = (.bool true : AV),
        (.bool (decide (cost < 0)) : AV) = (.bool false : AV),
        (.bool (decide (cost > 1073741824)) : AV) = (.bool true : AV),
        (.bool (!(true == true)) : AV) = (.bool false : AV),
        (.bool ((lr2E far) == 2) : AV) = (.bool false : AV),
        (.int .u8 (far.tmod 2) : AV) = (.int .u8 (far % 2) : AV),
        (2 : Int) ≠ 0,
        (.bool ((far % 2) == 0) : AV) = (.bool false : AV),
        (.bool (!(false == false)) : AV) = (.bool false : AV),
        (.bool (2 != 2) : AV) = (.bool false : AV)]) (by kernel_rfl) ⟨(by simp [belowV, idsOf, idsL]), (eF (by simp [lrnE, *])), (bF q1), (bF q2), bneB rfl rfl, (eT (by simp [losE, *])), (bF q3), (bT q4), bneB rfl rfl, (eF (by simp [lr2E, *])), iI (Int.tmod_eq_emod_of_nonneg (by omega)), (by decide), (eF (by omega)), bneB rfl rfl, (nF (by omega)), trivial⟩ ?_
              exact rfl
          · by_cases q5 : far % 2 = 0
            · refine Ok.evf (by kernel_rfl) 400 [.d, .d, .v (.bool false), .d, .v (.bool false), .d, .d, .v (.bool false), .d, .v (.bool false), .d, .d, .d, .v (.bool false), .d, .v (.bool false), .d, .d, .v (.bool false), .d, .v (.bool false), .d, .d, .d, .d, .v (.bool true), .d, .v (.int .u8 (far % 2)), .v (.bool true), .v (.bool false), .d, .d, .d, .d, .v (.bool false), .d] [6, 7, 13, 14, 68, 69, 70, 71, 72, 73, 74, 75, 76, 77, 78, 79, 80, 81, 82, 83, 84, 85, 86, 87, 88, 89, 90, 91, 92, 93, 94] 5 (st' := ⟨[.any, .any, .any, .any, .any, .any, .bool false, .bool true, .any, .any, .any, .any, .any, .tuple [], .tuple [], .any, .any, .any, .any, .any, .any, .any, .any, .any, .any, .any, .any, .any, .any, .any, .any, .any, .any, .any, .any, .any, .any, .any, .any, .any, .any, .any, .any, .any, .any, .any, .any, .any, .any, .any, .any, .any, .any, .any, .any, .any, .any, .any, .any, .any, .any, .any, .any, .any, .any, .any, .any, .any, .bool false, .tuple [], .tuple [], .tuple [], .tuple [], .tuple [], .tuple [], .tuple [], .tuple [], .tuple [], .tuple [], .tuple [], .tuple [], .tuple [], .tuple [], .tuple [], .tuple [], .tuple [], .tuple [], .tuple [], .tuple [], .tuple [], .tuple [], .tuple [], .tuple [], .tuple [], .tuple []], [.cells [.list ((lrnL k).map encQ), .int .i64 (lrnE k)], .cells [.int .i64 (losN cost), .int .i64 (losD cost), .int .i64 (losE cost)], .row 3 [.agg [.int .i64 5, .int .i64 (1073741824 - (far % 2)), .int .i64 0]] 0, .cells [.list ((lr2L far).map encQ), .int .i64 (lr2E far)], .cells [.list (([] : List An).map encQ), .int .i64 2]]⟩) (e := .normal) (ob := [∀ e ∈ ([.agg [.int .i64 5, .int .i64 (1073741824 - (far % 2)), .int .i64 0]] : List AV), belowV 5 e = true,
        (.bool ((lrnE k) == 1) : AV) = (.bool false : AV),
        (.bool (decide (k < 1)) : AV) = (.bool false : AV),
        (.bool (decide (k > 14)) : AV) = (.bool false : AV),
        (.bool (!(false == false)) : AV) = (.bool false : AV),
        (.bool ((losE cost) == 1) : AV) = (.bool false : AV),
        (.bool (decide (cost < 0)) : AV) = (.bool false : AV),
        (.bool (decide (cost > 1073741824)) : AV) = (.bool false : AV),
        (.bool (!(false == false)) : AV) = (.bool false : AV),
        (.bool ((lr2E far) == 2) : AV) = (.bool true : AV),
        (.int .u8 (far.tmod 2) : AV) = (.int .u8 (far % 2) : AV),
        (2 : Int) ≠ 0,
        (.bool ((far % 2) == 0) : AV) = (.bool true : AV),
        (.bool (!(true == true)) : AV) = (.bool false : AV),
        (.bool (2 != 2) : AV) = (.bool false : AV)]) (by kernel_rfl) ⟨(by simp [belowV, idsOf, idsL]), (eF (by simp [lrnE, *])), (bF q1), (bF q2), bneB rfl rfl, (eF (by simp [losE, *])), (bF q3), (bF q4), bneB rfl rfl, (eT (by simp [lr2E, *])), iI (Int.tmod_eq_emod_of_nonneg (by omega)), (by decide), (eT (by omega)), bneB rfl rfl, (nF (by omega)), trivial⟩ ?_
              exact rfl
            · refine Ok.evf (by kernel_rfl) 400 [.d, .d, .v (.bool false), .d, .v (.bool false), .d, .d, .v (.bool false), .d, .v (.bool false), .d, .d, .d, .v (.bool false), .d, .v (.bool false), .d, .d, .v (.bool false), .d, .v (.bool false), .d, .d, .d, .d, .v (.bool false), .d, .v (.int .u8 (far % 2)), .v (.bool false), .v (.bool false), .d, .d, .d, .d, .v (.bool false), .d] [6, 7, 13, 14, 68, 69, 70, 71, 72, 73, 74, 75, 76, 77, 78, 79, 80, 81, 82, 83, 84, 85, 86, 87, 88, 89, 90, 91, 92, 93, 94] 5 (st' := ⟨[.any, .any, .any, .any, .any, .any, .bool false, .bool true, .any, .any, .any, .any, .any, .tuple [], .tuple [], .any, .any, .any, .any, .any, .any, .any, .any, .any, .any, .any, .any, .any, .any, .any, .any, .any, .any, .any, .any, .any, .any, .any, .any, .any, .any, .any, .any, .any, .any, .any, .any, .any, .any, .any, .any, .any, .any, .any, .any, .any, .any, .any, .any, .any, .any, .any, .any, .any, .any, .any, .any, .any, .bool false, .tuple [], .tuple [], .tuple [], .tuple [], .tuple [], .tuple [], .tuple [], .tuple [], .tuple [], .tuple [], .tuple [], .tuple [], .tuple [], .tuple [], .tuple [], .tuple [], .tuple [], .tuple [], .tuple [], .tuple [], .tuple [], .tuple [], .tuple [], .tuple [], .tuple [], .tuple []], [.cells [.list ((lrnL k).map encQ), .int .i64 (lrnE k)], .cells [.int .i64 (losN cost), .int .i64 (losD cost), .int .i64 (losE cost)], .row 3 [.agg [.int .i64 5, .int .i64 (1073741824 - (far % 2)), .int .i64 0]] 0, .cells [.list ((lr2L far).map encQ), .int .i64 (lr2E far)], .cells [.list (([] : List An).map encQ), .int .i64 2]]⟩) (e := .normal) (ob := [∀ e ∈ ([.agg [.int .i64 5, .int .i64 (1073741824 - (far % 2)), .int .i64 0]] : List AV), belowV 5 e = true,
        (.bool ((lrnE k) == 1) : AV) = (.bool false : AV),
        (.bool (decide (k < 1)) : AV) = (.bool false : AV),
        (.bool (decide (k > 14)) : AV) = (.bool false : AV),
        (.bool (!(false == false)) : AV) = (.bool false : AV),
        (.bool ((losE cost) == 1) : AV) = (.bool false : AV),
        (.bool (decide (cost < 0)) : AV) = (.bool false : AV),
        (.bool (decide (cost > 1073741824)) : AV) = (.bool false : AV),
        (.bool (!(false == false)) : AV) = (.bool false : AV),
        (.bool ((lr2E far) == 2) : AV) = (.bool false : AV),
        (.int .u8 (far.tmod 2) : AV) = (.int .u8 (far % 2) : AV),
        (2 : Int) ≠ 0,
        (.bool ((far % 2) == 0) : AV) = (.bool false : AV),
        (.bool (!(false == false)) : AV) = (.bool false : AV),
        (.bool (2 != 2) : AV) = (.bool false : AV)]) (by kernel_rfl) ⟨(by simp [belowV, idsOf, idsL]), (eF (by simp [lrnE, *])), (bF q1), (bF q2), bneB rfl rfl, (eF (by simp [losE, *])), (bF q3), (bF q4), bneB rfl rfl, (eF (by simp [lr2E, *])), iI (Int.tmod_eq_emod_of_nonneg (by omega)), (by decide), (eF (by omega)), bneB rfl rfl, (nF (by omega)), trivial⟩ ?_
              exact rfl
  · refine Ok.evf (by kernel_rfl) 400 [.d] [6, 7, 13, 14, 69, 70, 71, 72, 73, 74, 75, 76, 77, 78, 79, 80, 81, 82, 83, 84, 85, 86, 87, 88, 89, 90, 91, 92, 93, 94] 5 (st' := ⟨[.any, .any, .any, .any, .any, .any, .bool false, .bool true, .any, .any, .any, .any, .any, .tuple [], .tuple [], .any, .any, .any, .any, .any, .any, .any, .any, .any, .any, .any, .any, .any, .any, .any, .any, .any, .any, .any, .any, .any, .any, .any, .any, .any, .any, .any, .any, .any, .any, .any, .any, .any, .any, .any, .any, .any, .any, .any, .any, .any, .any, .any, .any, .any, .any, .any, .any, .any, .any, .any, .any, .any, .any, .tuple [], .tuple [], .tuple [], .tuple [], .tuple [], .tuple [], .tuple [], .tuple [], .tuple [], .tuple [], .tuple [], .tuple [], .tuple [], .tuple [], .tuple [], .tuple [], .tuple [], .tuple [], .tuple [], .tuple [], .tuple [], .tuple [], .tuple [], .tuple [], .tuple [], .tuple []], [.cells [.list ((lrnL k).map encQ), .int .i64 (lrnE k)], .cells [.int .i64 (losN cost), .int .i64 (losD cost), .int .i64 (losE cost)], .row 3 [.agg [.int .i64 5, .int .i64 (1073741824 - (far % 2)), .int .i64 0]] 0, .cells [.list ((lr2L far).map encQ), .int .i64 (lr2E far)], .cells [.list (([] : List An).map encQ), .int .i64 2]]⟩) (e := .normal) (ob := [∀ e ∈ ([.agg [.int .i64 5, .int .i64 (1073741824 - (far % 2)), .int .i64 0]] : List AV), belowV 5 e = true]) (by kernel_rfl) ⟨(by simp [belowV, idsOf, idsL]), trivial⟩ ?_
    refine seq_n ?_
    refine Ok.evf (by kernel_rfl) 400 [.d, .d, .d, .d, .d, .d, .d, .d, .d, .d, .d, .d, .d, .d, .d, .d, .d, .d, .d, .d, .d, .d, .d, .d, .f true (.int .i64 1), .d, .d, .d, .v (.int .i64 1), .d, .d, .d, .d, .d, .d, .d, .d, .d, .d, .f true (.int .i64 1), .d, .d, .d, .v (.int .i64 2), .d, .d, .d, .d, .d, .d, .d, .d, .d, .d, .f true (.int .i64 1), .d, .d, .d, .v (.int .i64 3), .d, .d, .d, .d, .d, .d, .d, .d, .d, .d, .f true (.int .i64 1), .d, .d, .d, .v (.int .i64 4), .d, .d, .d, .d, .d, .d, .d, .d, .d, .d, .f true (.int .i64 1), .d, .d, .d, .v (.int .i64 5), .d, .d, .d, .d, .d, .d, .d, .d] [6] 5 (st' := ⟨[.any, .any, .any, .any, .any, .any, .bool true, .any, .any, .any, .any, .any, .any, .any, .any, .any, .any, .any, .any, .any, .any, .any, .any, .any, .any, .any, .any, .any, .any, .any, .any, .any, .any, .any, .any, .any, .any, .any, .any, .any, .any, .any, .any, .any, .any, .any, .any, .any, .any, .any, .any, .any, .any, .any, .any, .any, .any, .any, .any, .any, .any, .any, .any, .any, .any, .any, .any, .any, .any, .any, .any, .any, .any, .any, .any, .any, .any, .any, .any, .any, .any, .any, .any, .any, .any, .any, .any, .any, .any, .any, .any, .any, .any, .any, .any], [.cells [.list ((lrnL k).map encQ), .int .i64 (lrnE k)], .cells [.int .i64 (losN cost), .int .i64 (losD cost), .int .i64 (losE cost)], .row 3 [.agg [.int .i64 5, .int .i64 (1073741824 - (far % 2)), .int .i64 0]] 0, .cells [.list ((lr2L far).map encQ), .int .i64 (lr2E far)], .cells [.list (([] : List An).map encQ), .int .i64 2]]⟩) (e := .ret) (ob := [∀ e ∈ ([.agg [.int .i64 5, .int .i64 (1073741824 - (far % 2)), .int .i64 0]] : List AV), belowV 5 e = true,
        0 ≤ (0 : Int) ∧ (0 : Int) < (5 : Nat),
        FnF Try.prog 11 true [.list [.agg [.int .i64 5, .int .i64 0, .int .i64 0], .agg [.int .i64 5, .int .i64 0, .int .i64 0]]] (.int .i64 1),
        ∀ e ∈ ([.agg [.int .i64 5, .int .i64 0, .int .i64 0], .agg [.int .i64 5, .int .i64 0, .int .i64 0]] : List AV), idsOf e = [],
        (.int .i64 (IntKind.wrap .i64 (0 + 1)) : AV) = (.int .i64 1 : AV),
        0 ≤ (1 : Int) ∧ (1 : Int) < (5 : Nat),
        FnF Try.prog 11 true [.list [.agg [.int .i64 6, .int .i64 0, .int .i64 0], .agg [.int .i64 5, .int .i64 0, .int .i64 0]]] (.int .i64 1),
        ∀ e ∈ ([.agg [.int .i64 6, .int .i64 0, .int .i64 0], .agg [.int .i64 5, .int .i64 0, .int .i64 0]] : List AV), idsOf e = [],
        (.int .i64 (IntKind.wrap .i64 (1 + 1)) : AV) = (.int .i64 2 : AV),
        0 ≤ (2 : Int) ∧ (2 : Int) < (5 : Nat),
        FnF Try.prog 11 true [.list [.agg [.int .i64 5, .int .i64 (-1), .int .i64 0]]] (.int .i64 1),
        ∀ e ∈ ([.agg [.int .i64 5, .int .i64 (-1), .int .i64 0]] : List AV), idsOf e = [],
        (.int .i64 (IntKind.wrap .i64 (2 + 1)) : AV) = (.int .i64 3 : AV),
        0 ≤ (3 : Int) ∧ (3 : Int) < (5 : Nat),
        FnF Try.prog 11 true [.list [.agg [.int .i64 5, .int .i64 0, .int .i64 1073741825]]] (.int .i64 1),
        ∀ e ∈ ([.agg [.int .i64 5, .int .i64 0, .int .i64 1073741825]] : List AV), idsOf e = [],
        (.int .i64 (IntKind.wrap .i64 (3 + 1)) : AV) = (.int .i64 4 : AV),
        0 ≤ (4 : Int) ∧ (4 : Int) < (5 : Nat),
        FnF Try.prog 11 true [.list [.agg [.int .i64 0, .int .i64 0, .int .i64 0]]] (.int .i64 1),
        ∀ e ∈ ([.agg [.int .i64 0, .int .i64 0, .int .i64 0]] : List AV), idsOf e = [],
        (.int .i64 (IntKind.wrap .i64 (4 + 1)) : AV) = (.int .i64 5 : AV)]) (by kernel_rfl) ⟨(by simp [belowV, idsOf, idsL]), (by decide), orf11_33, (by simp [idsOf, idsL]), rfl, (by decide), orf11_34, (by simp [idsOf, idsL]), rfl, (by decide), orf11_35, (by simp [idsOf, idsL]), rfl, (by decide), orf11_36, (by simp [idsOf, idsL]), rfl, (by decide), orf11_37, (by simp [idsOf, idsL]), rfl, trivial⟩ ?_
    exact ⟨.inr rfl, finF_of (ob := [(true : Bool) = true]) (by kernel_rfl) ⟨rfl, trivial⟩⟩

end Go.Proofs.Ytlhmionefjopiaa
