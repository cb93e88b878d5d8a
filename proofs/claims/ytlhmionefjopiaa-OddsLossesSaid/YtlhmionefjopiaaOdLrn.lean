/- Learning -/
import Derived.Test.YtlhmionefjopiaaOdMath
import Derived.Test.YtlhmionefjopiaaProg
set_option linter.unusedVariables false
set_option linter.unusedSimpArgs false
namespace Go.Proofs.Ytlhmionefjopiaa
open Go.RowKit
set_option maxRecDepth 100000

theorem merge_len : ∀ (p q : List An), (mergeF p q).length ≤ p.length + q.length
  | [], q => by simp [mergeF]
  | x :: p, [] => by simp [mergeF]
  | x :: p, y :: q => by
    rw [mergeF]
    split
    · have := merge_len p (y :: q); simp at this ⊢; omega
    · split
      · have := merge_len (x :: p) q; simp at this ⊢; omega
      · have := merge_len p q; simp at this ⊢; omega
  termination_by p q => p.length + q.length
theorem od_mergeN {a b : List An} (ha : ∀ x ∈ a, BdQ x) (hb : ∀ x ∈ b, BdQ x) (hab : a.length + b.length ≤ 2000000) (h0 : mergeF a b = []) : FnF Try.prog 43 true [.list (a.map encQ), .list (b.map encQ), .func (.func 44) [] [], .func (.func 42) [] []] (.list []) := by
  have := od_merge ha hb hab
  rw [h0] at this; exact this
def joinE (l : List An) : Int := if rightE l = 0 then 0 else 2
def joinL (l : List An) : List An := if rightE l = 0 then l else []
def oneQ (k : Int) (r : Bool) : An := if r then ⟨k, 1, 0⟩ else ⟨k, 0, 1⟩
def lrnE (l : List An) (k : Int) (r : Bool) : Int := if k < 1 ∨ 14 < k then 1 else joinE (mergeF l [oneQ k r])
def lrnL (l : List An) (k : Int) (r : Bool) : List An := if k < 1 ∨ 14 < k then [] else joinL (mergeF l [oneQ k r])
theorem rightE_nil : rightE [] = 0 := by rw [rightE, if_pos right_nil]
theorem one_bd1 (k : Int) : ∀ x ∈ [(⟨k, 1, 0⟩ : An)], BdQ x := by simp [BdQ]
theorem one_bd2 (k : Int) : ∀ x ∈ [(⟨k, 0, 1⟩ : An)], BdQ x := by simp [BdQ]
theorem ol11_3   : FnF Try.prog 11 true [.list []] (.int .i64 0) :=
  fn_evF (by kernel_rfl) Try.func11 (by kernel_rfl) 400
      [.d, .d, .v (.int .i64 0), .d, .d, .d, .d]
      (by kernel_rfl) (ob := [(.int .i64 (([] : List AV).length : Int) : AV) = (.int .i64 0 : AV),
        (0 : Int) = 0]) (by kernel_rfl)
      ⟨rfl, rfl, trivial⟩

theorem ol28_4 {a b : List An} (ha : ∀ x ∈ a, BdQ x) (hb : ∀ x ∈ b, BdQ x) (hab : a.length + b.length ≤ 900000) (q1 : mergeF a b = []) : FnF Try.prog 28 true [.list (a.map encQ), .list (b.map encQ)] (.tuple [.list [], .int .i64 0]) :=
  fn_evF (by kernel_rfl) Try.func28 (by kernel_rfl) 400
      [.d, .d, .d, .d, .d, .d, .f true (.list []), .d, .d, .f true (.int .i64 0), .d, .d, .d, .d, .d]
      (by kernel_rfl) (ob := [FnF Try.prog 43 true [.list (a.map encQ), .list (b.map encQ), .func (.func 44) [] [], .func (.func 42) [] []] (.list []),
        FnF Try.prog 11 true [.list []] (.int .i64 0),
        ([] : List AV) = [],
        ([] : List AV) = [],
        (0 : Int) = 0]) (by kernel_rfl)
      ⟨(od_mergeN (a := a) (b := b) ha hb (by first | omega | (simp; omega)) q1), ol11_3, rfl, rfl, rfl, trivial⟩

theorem ol28_5 {a b : List An} (ha : ∀ x ∈ a, BdQ x) (hb : ∀ x ∈ b, BdQ x) (hab : a.length + b.length ≤ 900000) (q1 : ¬ (mergeF a b = [])) (q2 : (rightE (mergeF a b)) = 0) : FnM Try.prog 28 [] [.list (a.map encQ), .list (b.map encQ)] (.tuple [.slice 0 0 ((mergeF a b).length) 0, .int .i64 0]) [.row 3 ((mergeF a b).map encQ) 0] :=
  fn_ev (by kernel_rfl) Try.func28 (by kernel_rfl) 400
      [.d, .d, .d, .d, .d, .d, .c (.slice 0 0 ((mergeF a b).length) 0) [.row 3 ((mergeF a b).map encQ) 0], .d, .d, .f true (.int .i64 (rightE (mergeF a b))), .v (.bool false), .d, .d, .d, .d]
      [0] rfl (r := .tuple [.slice 0 0 ((mergeF a b).length) 0, .int .i64 0]) (R := [.row 3 ((mergeF a b).map encQ) 0]) (ob := [FnM Try.prog 43 [] [.list (a.map encQ), .list (b.map encQ), .func (.func 44) [] [], .func (.func 42) [] []] (.slice 0 0 ((mergeF a b).length) 0) [.row 3 ((mergeF a b).map encQ) 0],
        ∀ e ∈ ((mergeF a b).map encQ : List AV), idsOf e = [],
        FnF Try.prog 11 true [.list ((((mergeF a b).map encQ).drop 0).take ((mergeF a b).length))] (.int .i64 (rightE (mergeF a b))),
        ∀ e ∈ ((mergeF a b).map encQ : List AV), idsOf e = [],
        (.bool ((rightE (mergeF a b)) != 0) : AV) = (.bool false : AV),
        ∀ e ∈ ((mergeF a b).map encQ : List AV), idsOf e = []]) (by kernel_rfl)
      ⟨(od_mergeM (a := a) (b := b) ha hb (by first | omega | (simp; omega)) q1), ids_map (fun _ => rfl) _, (by rw [rowOut rfl]; exact od_right (l := mergeF a b) (by have := merge_len a b; first | omega | (simp at this; omega))), (by simp [idsOf, idsL, encQ]), (nF q2), ids_map (fun _ => rfl) _, trivial⟩

theorem ol28_6 {a b : List An} (ha : ∀ x ∈ a, BdQ x) (hb : ∀ x ∈ b, BdQ x) (hab : a.length + b.length ≤ 900000) (q1 : ¬ (mergeF a b = [])) (q2 : ¬ ((rightE (mergeF a b)) = 0)) : FnF Try.prog 28 true [.list (a.map encQ), .list (b.map encQ)] (.tuple [.nilslice, .int .i64 2]) :=
  fn_evF (by kernel_rfl) Try.func28 (by kernel_rfl) 400
      [.d, .d, .d, .d, .d, .d, .c (.slice 0 0 ((mergeF a b).length) 0) [.row 3 ((mergeF a b).map encQ) 0], .d, .d, .f true (.int .i64 (rightE (mergeF a b))), .v (.bool true), .d, .d, .d]
      (by kernel_rfl) (ob := [FnM Try.prog 43 [] [.list (a.map encQ), .list (b.map encQ), .func (.func 44) [] [], .func (.func 42) [] []] (.slice 0 0 ((mergeF a b).length) 0) [.row 3 ((mergeF a b).map encQ) 0],
        ∀ e ∈ ((mergeF a b).map encQ : List AV), idsOf e = [],
        FnF Try.prog 11 true [.list ((((mergeF a b).map encQ).drop 0).take ((mergeF a b).length))] (.int .i64 (rightE (mergeF a b))),
        ∀ e ∈ ((mergeF a b).map encQ : List AV), idsOf e = [],
        (.bool ((rightE (mergeF a b)) != 0) : AV) = (.bool true : AV),
        (.nilslice : AV) = (.nilslice : AV),
        (2 : Int) = 2]) (by kernel_rfl)
      ⟨(od_mergeM (a := a) (b := b) ha hb (by first | omega | (simp; omega)) q1), ids_map (fun _ => rfl) _, (by rw [rowOut rfl]; exact od_right (l := mergeF a b) (by have := merge_len a b; first | omega | (simp at this; omega))), (by simp [idsOf, idsL, encQ]), (nT q2), rfl, rfl, trivial⟩

theorem od_joined {a b : List An} (ha : ∀ x ∈ a, BdQ x) (hb : ∀ x ∈ b, BdQ x) (hab : a.length + b.length ≤ 900000) : FnF Try.prog 14 true [.list (a.map encQ), .list (b.map encQ)] (.agg [.list ((joinL (mergeF a b)).map encQ), .int .i64 (joinE (mergeF a b))]) := by
  by_cases q1 : mergeF a b = []
  · exact fn_evF (by kernel_rfl) Try.func14 (by kernel_rfl) 400 [.d, .d, .d, .f true (.tuple [.list [], .int .i64 0]), .d, .d, .d, .d, .d, .d, .d, .d, .d] (by kernel_rfl) (ob := [FnF Try.prog 28 true [.list (a.map encQ), .list (b.map encQ)] (.tuple [.list [], .int .i64 0]), ([] : List AV) = (joinL (mergeF a b)).map encQ, ([] : List AV) = [], (0 : Int) = joinE (mergeF a b)]) (by kernel_rfl) ⟨(ol28_4 ha hb hab q1), (by first | (simp [joinL, joinE, rightE_nil, *]; done) | (rw [rowOut rfl]; simp [joinL, joinE, *]; done)), rfl, (by first | (simp [joinL, joinE, rightE_nil, *]; done) | (rw [rowOut rfl]; simp [joinL, joinE, *]; done)), trivial⟩
  · by_cases q2 : (rightE (mergeF a b)) = 0
    · exact fn_evF (by kernel_rfl) Try.func14 (by kernel_rfl) 400 [.d, .d, .d, .c (.tuple [.slice 0 0 ((mergeF a b).length) 0, .int .i64 0]) [.row 3 ((mergeF a b).map encQ) 0], .d, .d, .d, .d, .d, .d, .d, .d, .d] (by kernel_rfl) (ob := [FnM Try.prog 28 [] [.list (a.map encQ), .list (b.map encQ)] (.tuple [.slice 0 0 ((mergeF a b).length) 0, .int .i64 0]) [.row 3 ((mergeF a b).map encQ) 0], ∀ e ∈ ((mergeF a b).map encQ : List AV), idsOf e = [], (((mergeF a b).map encQ : List AV).drop 0).take ((mergeF a b).length) = (joinL (mergeF a b)).map encQ, ∀ e ∈ ((mergeF a b).map encQ : List AV), plainE e, (0 : Int) = joinE (mergeF a b)]) (by kernel_rfl) ⟨(ol28_5 ha hb hab q1 q2), ids_map (fun _ => rfl) _, (by first | (simp [joinL, joinE, rightE_nil, *]; done) | (rw [rowOut rfl]; simp [joinL, joinE, *]; done)), pl_map (fun _ => rfl) (fun _ => rfl) _, (by first | (simp [joinL, joinE, rightE_nil, *]; done) | (rw [rowOut rfl]; simp [joinL, joinE, *]; done)), trivial⟩
    · exact fn_evF (by kernel_rfl) Try.func14 (by kernel_rfl) 400 [.d, .d, .d, .f true (.tuple [.nilslice, .int .i64 2]), .d, .d, .d, .d, .d, .d, .d, .d, .d] (by kernel_rfl) (ob := [FnF Try.prog 28 true [.list (a.map encQ), .list (b.map encQ)] (.tuple [.nilslice, .int .i64 2]), [] = ((joinL (mergeF a b)).map encQ : List AV), (2 : Int) = joinE (mergeF a b)]) (by kernel_rfl) ⟨(ol28_6 ha hb hab q1 q2), (by first | (simp [joinL, joinE, rightE_nil, *]; done) | (rw [rowOut rfl]; simp [joinL, joinE, *]; done)), (by first | (simp [joinL, joinE, rightE_nil, *]; done) | (rw [rowOut rfl]; simp [joinL, joinE, *]; done)), trivial⟩

theorem ol32_7 {l : List An} {k : Int} (hk : -9223372036854775808 ≤ k ∧ k ≤ 9223372036854775807) (hl : ∀ x ∈ l, BdQ x) (hn : l.length ≤ 900000) (q1 : k < 1) : FnF Try.prog 32 true [.list (l.map encQ), .int .i64 k, .bool true] (.tuple [.nilslice, .int .i64 1]) :=
  fn_evF (by kernel_rfl) Try.func32 (by kernel_rfl) 400
      [.d, .d, .d, .v (.bool true), .d, .d, .d, .d, .d, .d, .d]
      (by kernel_rfl) (ob := [(.bool (decide (k < 1)) : AV) = (.bool true : AV),
        (.nilslice : AV) = (.nilslice : AV),
        (1 : Int) = 1]) (by kernel_rfl)
      ⟨(bT q1), rfl, rfl, trivial⟩

theorem ol32_8 {l : List An} {k : Int} (hk : -9223372036854775808 ≤ k ∧ k ≤ 9223372036854775807) (hl : ∀ x ∈ l, BdQ x) (hn : l.length ≤ 900000) (q1 : ¬ (k < 1)) (q2 : k > 14) : FnF Try.prog 32 true [.list (l.map encQ), .int .i64 k, .bool true] (.tuple [.nilslice, .int .i64 1]) :=
  fn_evF (by kernel_rfl) Try.func32 (by kernel_rfl) 400
      [.d, .d, .d, .v (.bool false), .d, .d, .v (.bool true), .d, .d, .d, .d]
      (by kernel_rfl) (ob := [(.bool (decide (k < 1)) : AV) = (.bool false : AV),
        (.bool (decide (k > 14)) : AV) = (.bool true : AV),
        (.nilslice : AV) = (.nilslice : AV),
        (1 : Int) = 1]) (by kernel_rfl)
      ⟨(bF q1), (bT q2), rfl, rfl, trivial⟩

theorem ol28_9 {l : List An} {k : Int} (hk : -9223372036854775808 ≤ k ∧ k ≤ 9223372036854775807) (hl : ∀ x ∈ l, BdQ x) (hn : l.length ≤ 900000) (q1 : ¬ (k < 1)) (q2 : ¬ (k > 14)) (q3 : mergeF l ([(⟨k, 1, 0⟩ : An)]) = []) : FnF Try.prog 28 true [.list (l.map encQ), .list [.agg [.int .i64 k, .int .i64 1, .int .i64 0]]] (.tuple [.list [], .int .i64 0]) :=
  fn_evF (by kernel_rfl) Try.func28 (by kernel_rfl) 400
      [.d, .d, .d, .d, .d, .d, .f true (.list []), .d, .d, .f true (.int .i64 0), .d, .d, .d, .d, .d]
      (by kernel_rfl) (ob := [FnF Try.prog 43 true [.list (l.map encQ), .list [.agg [.int .i64 k, .int .i64 1, .int .i64 0]], .func (.func 44) [] [], .func (.func 42) [] []] (.list []),
        FnF Try.prog 11 true [.list []] (.int .i64 0),
        ([] : List AV) = [],
        ([] : List AV) = [],
        (0 : Int) = 0]) (by kernel_rfl)
      ⟨(od_mergeN (a := l) (b := [(⟨k, 1, 0⟩ : An)]) hl (one_bd1 k) (by first | omega | (simp; omega)) q3), ol11_3, rfl, rfl, rfl, trivial⟩

theorem ol32_10 {l : List An} {k : Int} (hk : -9223372036854775808 ≤ k ∧ k ≤ 9223372036854775807) (hl : ∀ x ∈ l, BdQ x) (hn : l.length ≤ 900000) (q1 : ¬ (k < 1)) (q2 : ¬ (k > 14)) (q3 : mergeF l ([(⟨k, 1, 0⟩ : An)]) = []) : FnF Try.prog 32 true [.list (l.map encQ), .int .i64 k, .bool true] (.tuple [.list [], .int .i64 0]) :=
  fn_evF (by kernel_rfl) Try.func32 (by kernel_rfl) 400
      [.d, .d, .d, .v (.bool false), .d, .d, .v (.bool false), .d, .d, .d, .d, .d, .d, .d, .d, .d, .d, .v (.int .i64 1), .d, .d, .d, .d, .d, .f true (.tuple [.list [], .int .i64 0]), .d, .d, .d, .d]
      (by kernel_rfl) (ob := [(.bool (decide (k < 1)) : AV) = (.bool false : AV),
        (.bool (decide (k > 14)) : AV) = (.bool false : AV),
        (.int .i64 (IntKind.wrap .i64 (0 + 1)) : AV) = (.int .i64 1 : AV),
        FnF Try.prog 28 true [.list (l.map encQ), .list [.agg [.int .i64 k, .int .i64 1, .int .i64 0]]] (.tuple [.list [], .int .i64 0]),
        ∀ e ∈ ([.agg [.int .i64 k, .int .i64 1, .int .i64 0]] : List AV), idsOf e = [],
        ([] : List AV) = [],
        ([] : List AV) = [],
        (0 : Int) = 0]) (by kernel_rfl)
      ⟨(bF q1), (bF q2), rfl, (ol28_9 hk hl hn q1 q2 q3), (by simp [idsOf, idsL, encQ]), rfl, rfl, rfl, trivial⟩

theorem ol28_11 {l : List An} {k : Int} (hk : -9223372036854775808 ≤ k ∧ k ≤ 9223372036854775807) (hl : ∀ x ∈ l, BdQ x) (hn : l.length ≤ 900000) (q1 : ¬ (k < 1)) (q2 : ¬ (k > 14)) (q3 : ¬ (mergeF l ([(⟨k, 1, 0⟩ : An)]) = [])) (q4 : (rightE (mergeF l ([(⟨k, 1, 0⟩ : An)]))) = 0) : FnM Try.prog 28 [] [.list (l.map encQ), .list [.agg [.int .i64 k, .int .i64 1, .int .i64 0]]] (.tuple [.slice 0 0 ((mergeF l ([(⟨k, 1, 0⟩ : An)])).length) 0, .int .i64 0]) [.row 3 ((mergeF l ([(⟨k, 1, 0⟩ : An)])).map encQ) 0] :=
  fn_ev (by kernel_rfl) Try.func28 (by kernel_rfl) 400
      [.d, .d, .d, .d, .d, .d, .c (.slice 0 0 ((mergeF l ([(⟨k, 1, 0⟩ : An)])).length) 0) [.row 3 ((mergeF l ([(⟨k, 1, 0⟩ : An)])).map encQ) 0], .d, .d, .f true (.int .i64 (rightE (mergeF l ([(⟨k, 1, 0⟩ : An)])))), .v (.bool false), .d, .d, .d, .d]
      [0] rfl (r := .tuple [.slice 0 0 ((mergeF l ([(⟨k, 1, 0⟩ : An)])).length) 0, .int .i64 0]) (R := [.row 3 ((mergeF l ([(⟨k, 1, 0⟩ : An)])).map encQ) 0]) (ob := [FnM Try.prog 43 [] [.list (l.map encQ), .list [.agg [.int .i64 k, .int .i64 1, .int .i64 0]], .func (.func 44) [] [], .func (.func 42) [] []] (.slice 0 0 ((mergeF l ([(⟨k, 1, 0⟩ : An)])).length) 0) [.row 3 ((mergeF l ([(⟨k, 1, 0⟩ : An)])).map encQ) 0],
        ∀ e ∈ ((mergeF l ([(⟨k, 1, 0⟩ : An)])).map encQ : List AV), idsOf e = [],
        FnF Try.prog 11 true [.list ((((mergeF l ([(⟨k, 1, 0⟩ : An)])).map encQ).drop 0).take ((mergeF l ([(⟨k, 1, 0⟩ : An)])).length))] (.int .i64 (rightE (mergeF l ([(⟨k, 1, 0⟩ : An)])))),
        ∀ e ∈ ((mergeF l ([(⟨k, 1, 0⟩ : An)])).map encQ : List AV), idsOf e = [],
        (.bool ((rightE (mergeF l ([(⟨k, 1, 0⟩ : An)]))) != 0) : AV) = (.bool false : AV),
        ∀ e ∈ ((mergeF l ([(⟨k, 1, 0⟩ : An)])).map encQ : List AV), idsOf e = []]) (by kernel_rfl)
      ⟨(od_mergeM (a := l) (b := [(⟨k, 1, 0⟩ : An)]) hl (one_bd1 k) (by first | omega | (simp; omega)) q3), ids_map (fun _ => rfl) _, (by rw [rowOut rfl]; exact od_right (l := mergeF l ([(⟨k, 1, 0⟩ : An)])) (by have := merge_len l ([(⟨k, 1, 0⟩ : An)]); first | omega | (simp at this; omega))), (by simp [idsOf, idsL, encQ]), (nF q4), ids_map (fun _ => rfl) _, trivial⟩

theorem ol32_12 {l : List An} {k : Int} (hk : -9223372036854775808 ≤ k ∧ k ≤ 9223372036854775807) (hl : ∀ x ∈ l, BdQ x) (hn : l.length ≤ 900000) (q1 : ¬ (k < 1)) (q2 : ¬ (k > 14)) (q3 : ¬ (mergeF l ([(⟨k, 1, 0⟩ : An)]) = [])) (q4 : (rightE (mergeF l ([(⟨k, 1, 0⟩ : An)]))) = 0) : FnM Try.prog 32 [] [.list (l.map encQ), .int .i64 k, .bool true] (.tuple [.slice 0 0 ((mergeF l ([(⟨k, 1, 0⟩ : An)])).length) 0, .int .i64 0]) [.row 3 ((mergeF l ([(⟨k, 1, 0⟩ : An)])).map encQ) 0] :=
  fn_ev (by kernel_rfl) Try.func32 (by kernel_rfl) 400
      [.d, .d, .d, .v (.bool false), .d, .d, .v (.bool false), .d, .d, .d, .d, .d, .d, .d, .d, .d, .d, .v (.int .i64 1), .d, .d, .d, .d, .d, .c (.tuple [.slice 0 0 ((mergeF l ([(⟨k, 1, 0⟩ : An)])).length) 0, .int .i64 0]) [.row 3 ((mergeF l ([(⟨k, 1, 0⟩ : An)])).map encQ) 0], .d, .d, .d, .d]
      [2] rfl (r := .tuple [.slice 0 0 ((mergeF l ([(⟨k, 1, 0⟩ : An)])).length) 0, .int .i64 0]) (R := [.row 3 ((mergeF l ([(⟨k, 1, 0⟩ : An)])).map encQ) 0]) (ob := [(.bool (decide (k < 1)) : AV) = (.bool false : AV),
        (.bool (decide (k > 14)) : AV) = (.bool false : AV),
        (.int .i64 (IntKind.wrap .i64 (0 + 1)) : AV) = (.int .i64 1 : AV),
        FnM Try.prog 28 [] [.list (l.map encQ), .list [.agg [.int .i64 k, .int .i64 1, .int .i64 0]]] (.tuple [.slice 0 0 ((mergeF l ([(⟨k, 1, 0⟩ : An)])).length) 0, .int .i64 0]) [.row 3 ((mergeF l ([(⟨k, 1, 0⟩ : An)])).map encQ) 0],
        plainV (.tuple [.slice 0 0 ((mergeF l ([(⟨k, 1, 0⟩ : An)])).length) 0, .int .i64 0]) = true,
        ∀ x ∈ ([.row 3 ((mergeF l ([(⟨k, 1, 0⟩ : An)])).map encQ) 0] : List Blk), PlainB x,
        ∀ e ∈ ((mergeF l ([(⟨k, 1, 0⟩ : An)])).map encQ : List AV), idsOf e = [],
        ∀ e ∈ ([.agg [.int .i64 k, .int .i64 1, .int .i64 0]] : List AV), idsOf e = [],
        ∀ e ∈ ((mergeF l ([(⟨k, 1, 0⟩ : An)])).map encQ : List AV), idsOf e = []]) (by kernel_rfl)
      ⟨(bF q1), (bF q2), rfl, (ol28_11 hk hl hn q1 q2 q3 q4), rfl, (by simp [PlainB, plainV, encQ, plainL]), ids_map (fun _ => rfl) _, (by simp [idsOf, idsL, encQ]), ids_map (fun _ => rfl) _, trivial⟩

theorem ol28_13 {l : List An} {k : Int} (hk : -9223372036854775808 ≤ k ∧ k ≤ 9223372036854775807) (hl : ∀ x ∈ l, BdQ x) (hn : l.length ≤ 900000) (q1 : ¬ (k < 1)) (q2 : ¬ (k > 14)) (q3 : ¬ (mergeF l ([(⟨k, 1, 0⟩ : An)]) = [])) (q4 : ¬ ((rightE (mergeF l ([(⟨k, 1, 0⟩ : An)]))) = 0)) : FnF Try.prog 28 true [.list (l.map encQ), .list [.agg [.int .i64 k, .int .i64 1, .int .i64 0]]] (.tuple [.nilslice, .int .i64 2]) :=
  fn_evF (by kernel_rfl) Try.func28 (by kernel_rfl) 400
      [.d, .d, .d, .d, .d, .d, .c (.slice 0 0 ((mergeF l ([(⟨k, 1, 0⟩ : An)])).length) 0) [.row 3 ((mergeF l ([(⟨k, 1, 0⟩ : An)])).map encQ) 0], .d, .d, .f true (.int .i64 (rightE (mergeF l ([(⟨k, 1, 0⟩ : An)])))), .v (.bool true), .d, .d, .d]
      (by kernel_rfl) (ob := [FnM Try.prog 43 [] [.list (l.map encQ), .list [.agg [.int .i64 k, .int .i64 1, .int .i64 0]], .func (.func 44) [] [], .func (.func 42) [] []] (.slice 0 0 ((mergeF l ([(⟨k, 1, 0⟩ : An)])).length) 0) [.row 3 ((mergeF l ([(⟨k, 1, 0⟩ : An)])).map encQ) 0],
        ∀ e ∈ ((mergeF l ([(⟨k, 1, 0⟩ : An)])).map encQ : List AV), idsOf e = [],
        FnF Try.prog 11 true [.list ((((mergeF l ([(⟨k, 1, 0⟩ : An)])).map encQ).drop 0).take ((mergeF l ([(⟨k, 1, 0⟩ : An)])).length))] (.int .i64 (rightE (mergeF l ([(⟨k, 1, 0⟩ : An)])))),
        ∀ e ∈ ((mergeF l ([(⟨k, 1, 0⟩ : An)])).map encQ : List AV), idsOf e = [],
        (.bool ((rightE (mergeF l ([(⟨k, 1, 0⟩ : An)]))) != 0) : AV) = (.bool true : AV),
        (.nilslice : AV) = (.nilslice : AV),
        (2 : Int) = 2]) (by kernel_rfl)
      ⟨(od_mergeM (a := l) (b := [(⟨k, 1, 0⟩ : An)]) hl (one_bd1 k) (by first | omega | (simp; omega)) q3), ids_map (fun _ => rfl) _, (by rw [rowOut rfl]; exact od_right (l := mergeF l ([(⟨k, 1, 0⟩ : An)])) (by have := merge_len l ([(⟨k, 1, 0⟩ : An)]); first | omega | (simp at this; omega))), (by simp [idsOf, idsL, encQ]), (nT q4), rfl, rfl, trivial⟩

theorem ol32_14 {l : List An} {k : Int} (hk : -9223372036854775808 ≤ k ∧ k ≤ 9223372036854775807) (hl : ∀ x ∈ l, BdQ x) (hn : l.length ≤ 900000) (q1 : ¬ (k < 1)) (q2 : ¬ (k > 14)) (q3 : ¬ (mergeF l ([(⟨k, 1, 0⟩ : An)]) = [])) (q4 : ¬ ((rightE (mergeF l ([(⟨k, 1, 0⟩ : An)]))) = 0)) : FnF Try.prog 32 true [.list (l.map encQ), .int .i64 k, .bool true] (.tuple [.nilslice, .int .i64 2]) :=
  fn_evF (by kernel_rfl) Try.func32 (by kernel_rfl) 400
      [.d, .d, .d, .v (.bool false), .d, .d, .v (.bool false), .d, .d, .d, .d, .d, .d, .d, .d, .d, .d, .v (.int .i64 1), .d, .d, .d, .d, .d, .f true (.tuple [.nilslice, .int .i64 2]), .d, .d, .d, .d]
      (by kernel_rfl) (ob := [(.bool (decide (k < 1)) : AV) = (.bool false : AV),
        (.bool (decide (k > 14)) : AV) = (.bool false : AV),
        (.int .i64 (IntKind.wrap .i64 (0 + 1)) : AV) = (.int .i64 1 : AV),
        FnF Try.prog 28 true [.list (l.map encQ), .list [.agg [.int .i64 k, .int .i64 1, .int .i64 0]]] (.tuple [.nilslice, .int .i64 2]),
        ∀ e ∈ ([.agg [.int .i64 k, .int .i64 1, .int .i64 0]] : List AV), idsOf e = [],
        (.nilslice : AV) = (.nilslice : AV),
        (2 : Int) = 2]) (by kernel_rfl)
      ⟨(bF q1), (bF q2), rfl, (ol28_13 hk hl hn q1 q2 q3 q4), (by simp [idsOf, idsL, encQ]), rfl, rfl, trivial⟩

theorem od_learned {l : List An} {k : Int} (hk : -9223372036854775808 ≤ k ∧ k ≤ 9223372036854775807) (hl : ∀ x ∈ l, BdQ x) (hn : l.length ≤ 900000) : FnF Try.prog 20 true [.list (l.map encQ), .int .i64 k, .bool true] (.agg [.list ((lrnL l k true).map encQ), .int .i64 (lrnE l k true)]) := by
  by_cases q1 : k < 1
  · exact fn_evF (by kernel_rfl) Try.func20 (by kernel_rfl) 400 [.d, .d, .d, .d, .f true (.tuple [.nilslice, .int .i64 1]), .d, .d, .d, .d, .d, .d, .d, .d, .d] (by kernel_rfl) (ob := [FnF Try.prog 32 true [.list (l.map encQ), .int .i64 k, .bool true] (.tuple [.nilslice, .int .i64 1]), [] = ((lrnL l k true).map encQ : List AV), (1 : Int) = lrnE l k true]) (by kernel_rfl) ⟨(ol32_7 hk hl hn q1), (by first | (unfold lrnE; rw [if_pos (by omega)]; done) | (unfold lrnL; rw [if_pos (by omega)]; rfl; done) | (unfold lrnE; rw [if_neg (by omega)]; simp [joinE, oneQ, rightE_nil, *]; done) | (unfold lrnL; rw [if_neg (by omega)]; first | (simp [joinL, oneQ, rightE_nil, *]; done) | (rw [rowOut rfl]; simp [joinL, oneQ, *]; done))), (by first | (unfold lrnE; rw [if_pos (by omega)]; done) | (unfold lrnL; rw [if_pos (by omega)]; rfl; done) | (unfold lrnE; rw [if_neg (by omega)]; simp [joinE, oneQ, rightE_nil, *]; done) | (unfold lrnL; rw [if_neg (by omega)]; first | (simp [joinL, oneQ, rightE_nil, *]; done) | (rw [rowOut rfl]; simp [joinL, oneQ, *]; done))), trivial⟩
  · by_cases q2 : k > 14
    · exact fn_evF (by kernel_rfl) Try.func20 (by kernel_rfl) 400 [.d, .d, .d, .d, .f true (.tuple [.nilslice, .int .i64 1]), .d, .d, .d, .d, .d, .d, .d, .d, .d] (by kernel_rfl) (ob := [FnF Try.prog 32 true [.list (l.map encQ), .int .i64 k, .bool true] (.tuple [.nilslice, .int .i64 1]), [] = ((lrnL l k true).map encQ : List AV), (1 : Int) = lrnE l k true]) (by kernel_rfl) ⟨(ol32_8 hk hl hn q1 q2), (by first | (unfold lrnE; rw [if_pos (by omega)]; done) | (unfold lrnL; rw [if_pos (by omega)]; rfl; done) | (unfold lrnE; rw [if_neg (by omega)]; simp [joinE, oneQ, rightE_nil, *]; done) | (unfold lrnL; rw [if_neg (by omega)]; first | (simp [joinL, oneQ, rightE_nil, *]; done) | (rw [rowOut rfl]; simp [joinL, oneQ, *]; done))), (by first | (unfold lrnE; rw [if_pos (by omega)]; done) | (unfold lrnL; rw [if_pos (by omega)]; rfl; done) | (unfold lrnE; rw [if_neg (by omega)]; simp [joinE, oneQ, rightE_nil, *]; done) | (unfold lrnL; rw [if_neg (by omega)]; first | (simp [joinL, oneQ, rightE_nil, *]; done) | (rw [rowOut rfl]; simp [joinL, oneQ, *]; done))), trivial⟩
    · by_cases q3 : mergeF l ([(⟨k, 1, 0⟩ : An)]) = []
      · exact fn_evF (by kernel_rfl) Try.func20 (by kernel_rfl) 400 [.d, .d, .d, .d, .f true (.tuple [.list [], .int .i64 0]), .d, .d, .d, .d, .d, .d, .d, .d, .d] (by kernel_rfl) (ob := [FnF Try.prog 32 true [.list (l.map encQ), .int .i64 k, .bool true] (.tuple [.list [], .int .i64 0]), ([] : List AV) = (lrnL l k true).map encQ, ([] : List AV) = [], (0 : Int) = lrnE l k true]) (by kernel_rfl) ⟨(ol32_10 hk hl hn q1 q2 q3), (by first | (unfold lrnE; rw [if_pos (by omega)]; done) | (unfold lrnL; rw [if_pos (by omega)]; rfl; done) | (unfold lrnE; rw [if_neg (by omega)]; simp [joinE, oneQ, rightE_nil, *]; done) | (unfold lrnL; rw [if_neg (by omega)]; first | (simp [joinL, oneQ, rightE_nil, *]; done) | (rw [rowOut rfl]; simp [joinL, oneQ, *]; done))), rfl, (by first | (unfold lrnE; rw [if_pos (by omega)]; done) | (unfold lrnL; rw [if_pos (by omega)]; rfl; done) | (unfold lrnE; rw [if_neg (by omega)]; simp [joinE, oneQ, rightE_nil, *]; done) | (unfold lrnL; rw [if_neg (by omega)]; first | (simp [joinL, oneQ, rightE_nil, *]; done) | (rw [rowOut rfl]; simp [joinL, oneQ, *]; done))), trivial⟩
      · by_cases q4 : (rightE (mergeF l ([(⟨k, 1, 0⟩ : An)]))) = 0
        · exact fn_evF (by kernel_rfl) Try.func20 (by kernel_rfl) 400 [.d, .d, .d, .d, .c (.tuple [.slice 0 0 ((mergeF l ([(⟨k, 1, 0⟩ : An)])).length) 0, .int .i64 0]) [.row 3 ((mergeF l ([(⟨k, 1, 0⟩ : An)])).map encQ) 0], .d, .d, .d, .d, .d, .d, .d, .d, .d] (by kernel_rfl) (ob := [FnM Try.prog 32 [] [.list (l.map encQ), .int .i64 k, .bool true] (.tuple [.slice 0 0 ((mergeF l ([(⟨k, 1, 0⟩ : An)])).length) 0, .int .i64 0]) [.row 3 ((mergeF l ([(⟨k, 1, 0⟩ : An)])).map encQ) 0], ∀ e ∈ ((mergeF l ([(⟨k, 1, 0⟩ : An)])).map encQ : List AV), idsOf e = [], (((mergeF l ([(⟨k, 1, 0⟩ : An)])).map encQ : List AV).drop 0).take ((mergeF l ([(⟨k, 1, 0⟩ : An)])).length) = (lrnL l k true).map encQ, ∀ e ∈ ((mergeF l ([(⟨k, 1, 0⟩ : An)])).map encQ : List AV), plainE e, (0 : Int) = lrnE l k true]) (by kernel_rfl) ⟨(ol32_12 hk hl hn q1 q2 q3 q4), ids_map (fun _ => rfl) _, (by first | (unfold lrnE; rw [if_pos (by omega)]; done) | (unfold lrnL; rw [if_pos (by omega)]; rfl; done) | (unfold lrnE; rw [if_neg (by omega)]; simp [joinE, oneQ, rightE_nil, *]; done) | (unfold lrnL; rw [if_neg (by omega)]; first | (simp [joinL, oneQ, rightE_nil, *]; done) | (rw [rowOut rfl]; simp [joinL, oneQ, *]; done))), pl_map (fun _ => rfl) (fun _ => rfl) _, (by first | (unfold lrnE; rw [if_pos (by omega)]; done) | (unfold lrnL; rw [if_pos (by omega)]; rfl; done) | (unfold lrnE; rw [if_neg (by omega)]; simp [joinE, oneQ, rightE_nil, *]; done) | (unfold lrnL; rw [if_neg (by omega)]; first | (simp [joinL, oneQ, rightE_nil, *]; done) | (rw [rowOut rfl]; simp [joinL, oneQ, *]; done))), trivial⟩
        · exact fn_evF (by kernel_rfl) Try.func20 (by kernel_rfl) 400 [.d, .d, .d, .d, .f true (.tuple [.nilslice, .int .i64 2]), .d, .d, .d, .d, .d, .d, .d, .d, .d] (by kernel_rfl) (ob := [FnF Try.prog 32 true [.list (l.map encQ), .int .i64 k, .bool true] (.tuple [.nilslice, .int .i64 2]), [] = ((lrnL l k true).map encQ : List AV), (2 : Int) = lrnE l k true]) (by kernel_rfl) ⟨(ol32_14 hk hl hn q1 q2 q3 q4), (by first | (unfold lrnE; rw [if_pos (by omega)]; done) | (unfold lrnL; rw [if_pos (by omega)]; rfl; done) | (unfold lrnE; rw [if_neg (by omega)]; simp [joinE, oneQ, rightE_nil, *]; done) | (unfold lrnL; rw [if_neg (by omega)]; first | (simp [joinL, oneQ, rightE_nil, *]; done) | (rw [rowOut rfl]; simp [joinL, oneQ, *]; done))), (by first | (unfold lrnE; rw [if_pos (by omega)]; done) | (unfold lrnL; rw [if_pos (by omega)]; rfl; done) | (unfold lrnE; rw [if_neg (by omega)]; simp [joinE, oneQ, rightE_nil, *]; done) | (unfold lrnL; rw [if_neg (by omega)]; first | (simp [joinL, oneQ, rightE_nil, *]; done) | (rw [rowOut rfl]; simp [joinL, oneQ, *]; done))), trivial⟩

theorem ol32_15 {l : List An} {k : Int} (hk : -9223372036854775808 ≤ k ∧ k ≤ 9223372036854775807) (hl : ∀ x ∈ l, BdQ x) (hn : l.length ≤ 900000) (q1 : k < 1) : FnF Try.prog 32 true [.list (l.map encQ), .int .i64 k, .bool false] (.tuple [.nilslice, .int .i64 1]) :=
  fn_evF (by kernel_rfl) Try.func32 (by kernel_rfl) 400
      [.d, .d, .d, .v (.bool true), .d, .d, .d, .d, .d, .d, .d]
      (by kernel_rfl) (ob := [(.bool (decide (k < 1)) : AV) = (.bool true : AV),
        (.nilslice : AV) = (.nilslice : AV),
        (1 : Int) = 1]) (by kernel_rfl)
      ⟨(bT q1), rfl, rfl, trivial⟩

theorem ol32_16 {l : List An} {k : Int} (hk : -9223372036854775808 ≤ k ∧ k ≤ 9223372036854775807) (hl : ∀ x ∈ l, BdQ x) (hn : l.length ≤ 900000) (q1 : ¬ (k < 1)) (q2 : k > 14) : FnF Try.prog 32 true [.list (l.map encQ), .int .i64 k, .bool false] (.tuple [.nilslice, .int .i64 1]) :=
  fn_evF (by kernel_rfl) Try.func32 (by kernel_rfl) 400
      [.d, .d, .d, .v (.bool false), .d, .d, .v (.bool true), .d, .d, .d, .d]
      (by kernel_rfl) (ob := [(.bool (decide (k < 1)) : AV) = (.bool false : AV),
        (.bool (decide (k > 14)) : AV) = (.bool true : AV),
        (.nilslice : AV) = (.nilslice : AV),
        (1 : Int) = 1]) (by kernel_rfl)
      ⟨(bF q1), (bT q2), rfl, rfl, trivial⟩

theorem ol28_17 {l : List An} {k : Int} (hk : -9223372036854775808 ≤ k ∧ k ≤ 9223372036854775807) (hl : ∀ x ∈ l, BdQ x) (hn : l.length ≤ 900000) (q1 : ¬ (k < 1)) (q2 : ¬ (k > 14)) (q3 : mergeF l ([(⟨k, 0, 1⟩ : An)]) = []) : FnF Try.prog 28 true [.list (l.map encQ), .list [.agg [.int .i64 k, .int .i64 0, .int .i64 1]]] (.tuple [.list [], .int .i64 0]) :=
  fn_evF (by kernel_rfl) Try.func28 (by kernel_rfl) 400
      [.d, .d, .d, .d, .d, .d, .f true (.list []), .d, .d, .f true (.int .i64 0), .d, .d, .d, .d, .d]
      (by kernel_rfl) (ob := [FnF Try.prog 43 true [.list (l.map encQ), .list [.agg [.int .i64 k, .int .i64 0, .int .i64 1]], .func (.func 44) [] [], .func (.func 42) [] []] (.list []),
        FnF Try.prog 11 true [.list []] (.int .i64 0),
        ([] : List AV) = [],
        ([] : List AV) = [],
        (0 : Int) = 0]) (by kernel_rfl)
      ⟨(od_mergeN (a := l) (b := [(⟨k, 0, 1⟩ : An)]) hl (one_bd2 k) (by first | omega | (simp; omega)) q3), ol11_3, rfl, rfl, rfl, trivial⟩

theorem ol32_18 {l : List An} {k : Int} (hk : -9223372036854775808 ≤ k ∧ k ≤ 9223372036854775807) (hl : ∀ x ∈ l, BdQ x) (hn : l.length ≤ 900000) (q1 : ¬ (k < 1)) (q2 : ¬ (k > 14)) (q3 : mergeF l ([(⟨k, 0, 1⟩ : An)]) = []) : FnF Try.prog 32 true [.list (l.map encQ), .int .i64 k, .bool false] (.tuple [.list [], .int .i64 0]) :=
  fn_evF (by kernel_rfl) Try.func32 (by kernel_rfl) 400
      [.d, .d, .d, .v (.bool false), .d, .d, .v (.bool false), .d, .d, .d, .d, .d, .d, .d, .d, .d, .d, .v (.int .i64 1), .d, .d, .d, .d, .d, .f true (.tuple [.list [], .int .i64 0]), .d, .d, .d, .d]
      (by kernel_rfl) (ob := [(.bool (decide (k < 1)) : AV) = (.bool false : AV),
        (.bool (decide (k > 14)) : AV) = (.bool false : AV),
        (.int .i64 (IntKind.wrap .i64 (0 + 1)) : AV) = (.int .i64 1 : AV),
        FnF Try.prog 28 true [.list (l.map encQ), .list [.agg [.int .i64 k, .int .i64 0, .int .i64 1]]] (.tuple [.list [], .int .i64 0]),
        ∀ e ∈ ([.agg [.int .i64 k, .int .i64 0, .int .i64 1]] : List AV), idsOf e = [],
        ([] : List AV) = [],
        ([] : List AV) = [],
        (0 : Int) = 0]) (by kernel_rfl)
      ⟨(bF q1), (bF q2), rfl, (ol28_17 hk hl hn q1 q2 q3), (by simp [idsOf, idsL, encQ]), rfl, rfl, rfl, trivial⟩

theorem ol28_19 {l : List An} {k : Int} (hk : -9223372036854775808 ≤ k ∧ k ≤ 9223372036854775807) (hl : ∀ x ∈ l, BdQ x) (hn : l.length ≤ 900000) (q1 : ¬ (k < 1)) (q2 : ¬ (k > 14)) (q3 : ¬ (mergeF l ([(⟨k, 0, 1⟩ : An)]) = [])) (q4 : (rightE (mergeF l ([(⟨k, 0, 1⟩ : An)]))) = 0) : FnM Try.prog 28 [] [.list (l.map encQ), .list [.agg [.int .i64 k, .int .i64 0, .int .i64 1]]] (.tuple [.slice 0 0 ((mergeF l ([(⟨k, 0, 1⟩ : An)])).length) 0, .int .i64 0]) [.row 3 ((mergeF l ([(⟨k, 0, 1⟩ : An)])).map encQ) 0] :=
  fn_ev (by kernel_rfl) Try.func28 (by kernel_rfl) 400
      [.d, .d, .d, .d, .d, .d, .c (.slice 0 0 ((mergeF l ([(⟨k, 0, 1⟩ : An)])).length) 0) [.row 3 ((mergeF l ([(⟨k, 0, 1⟩ : An)])).map encQ) 0], .d, .d, .f true (.int .i64 (rightE (mergeF l ([(⟨k, 0, 1⟩ : An)])))), .v (.bool false), .d, .d, .d, .d]
      [0] rfl (r := .tuple [.slice 0 0 ((mergeF l ([(⟨k, 0, 1⟩ : An)])).length) 0, .int .i64 0]) (R := [.row 3 ((mergeF l ([(⟨k, 0, 1⟩ : An)])).map encQ) 0]) (ob := [FnM Try.prog 43 [] [.list (l.map encQ), .list [.agg [.int .i64 k, .int .i64 0, .int .i64 1]], .func (.func 44) [] [], .func (.func 42) [] []] (.slice 0 0 ((mergeF l ([(⟨k, 0, 1⟩ : An)])).length) 0) [.row 3 ((mergeF l ([(⟨k, 0, 1⟩ : An)])).map encQ) 0],
        ∀ e ∈ ((mergeF l ([(⟨k, 0, 1⟩ : An)])).map encQ : List AV), idsOf e = [],
        FnF Try.prog 11 true [.list ((((mergeF l ([(⟨k, 0, 1⟩ : An)])).map encQ).drop 0).take ((mergeF l ([(⟨k, 0, 1⟩ : An)])).length))] (.int .i64 (rightE (mergeF l ([(⟨k, 0, 1⟩ : An)])))),
        ∀ e ∈ ((mergeF l ([(⟨k, 0, 1⟩ : An)])).map encQ : List AV), idsOf e = [],
        (.bool ((rightE (mergeF l ([(⟨k, 0, 1⟩ : An)]))) != 0) : AV) = (.bool false : AV),
        ∀ e ∈ ((mergeF l ([(⟨k, 0, 1⟩ : An)])).map encQ : List AV), idsOf e = []]) (by kernel_rfl)
      ⟨(od_mergeM (a := l) (b := [(⟨k, 0, 1⟩ : An)]) hl (one_bd2 k) (by first | omega | (simp; omega)) q3), ids_map (fun _ => rfl) _, (by rw [rowOut rfl]; exact od_right (l := mergeF l ([(⟨k, 0, 1⟩ : An)])) (by have := merge_len l ([(⟨k, 0, 1⟩ : An)]); first | omega | (simp at this; omega))), (by simp [idsOf, idsL, encQ]), (nF q4), ids_map (fun _ => rfl) _, trivial⟩

theorem ol32_20 {l : List An} {k : Int} (hk : -9223372036854775808 ≤ k ∧ k ≤ 9223372036854775807) (hl : ∀ x ∈ l, BdQ x) (hn : l.length ≤ 900000) (q1 : ¬ (k < 1)) (q2 : ¬ (k > 14)) (q3 : ¬ (mergeF l ([(⟨k, 0, 1⟩ : An)]) = [])) (q4 : (rightE (mergeF l ([(⟨k, 0, 1⟩ : An)]))) = 0) : FnM Try.prog 32 [] [.list (l.map encQ), .int .i64 k, .bool false] (.tuple [.slice 0 0 ((mergeF l ([(⟨k, 0, 1⟩ : An)])).length) 0, .int .i64 0]) [.row 3 ((mergeF l ([(⟨k, 0, 1⟩ : An)])).map encQ) 0] :=
  fn_ev (by kernel_rfl) Try.func32 (by kernel_rfl) 400
      [.d, .d, .d, .v (.bool false), .d, .d, .v (.bool false), .d, .d, .d, .d, .d, .d, .d, .d, .d, .d, .v (.int .i64 1), .d, .d, .d, .d, .d, .c (.tuple [.slice 0 0 ((mergeF l ([(⟨k, 0, 1⟩ : An)])).length) 0, .int .i64 0]) [.row 3 ((mergeF l ([(⟨k, 0, 1⟩ : An)])).map encQ) 0], .d, .d, .d, .d]
      [2] rfl (r := .tuple [.slice 0 0 ((mergeF l ([(⟨k, 0, 1⟩ : An)])).length) 0, .int .i64 0]) (R := [.row 3 ((mergeF l ([(⟨k, 0, 1⟩ : An)])).map encQ) 0]) (ob := [(.bool (decide (k < 1)) : AV) = (.bool false : AV),
        (.bool (decide (k > 14)) : AV) = (.bool false : AV),
        (.int .i64 (IntKind.wrap .i64 (0 + 1)) : AV) = (.int .i64 1 : AV),
        FnM Try.prog 28 [] [.list (l.map encQ), .list [.agg [.int .i64 k, .int .i64 0, .int .i64 1]]] (.tuple [.slice 0 0 ((mergeF l ([(⟨k, 0, 1⟩ : An)])).length) 0, .int .i64 0]) [.row 3 ((mergeF l ([(⟨k, 0, 1⟩ : An)])).map encQ) 0],
        plainV (.tuple [.slice 0 0 ((mergeF l ([(⟨k, 0, 1⟩ : An)])).length) 0, .int .i64 0]) = true,
        ∀ x ∈ ([.row 3 ((mergeF l ([(⟨k, 0, 1⟩ : An)])).map encQ) 0] : List Blk), PlainB x,
        ∀ e ∈ ((mergeF l ([(⟨k, 0, 1⟩ : An)])).map encQ : List AV), idsOf e = [],
        ∀ e ∈ ([.agg [.int .i64 k, .int .i64 0, .int .i64 1]] : List AV), idsOf e = [],
        ∀ e ∈ ((mergeF l ([(⟨k, 0, 1⟩ : An)])).map encQ : List AV), idsOf e = []]) (by kernel_rfl)
      ⟨(bF q1), (bF q2), rfl, (ol28_19 hk hl hn q1 q2 q3 q4), rfl, (by simp [PlainB, plainV, encQ, plainL]), ids_map (fun _ => rfl) _, (by simp [idsOf, idsL, encQ]), ids_map (fun _ => rfl) _, trivial⟩

theorem ol28_21 {l : List An} {k : Int} (hk : -9223372036854775808 ≤ k ∧ k ≤ 9223372036854775807) (hl : ∀ x ∈ l, BdQ x) (hn : l.length ≤ 900000) (q1 : ¬ (k < 1)) (q2 : ¬ (k > 14)) (q3 : ¬ (mergeF l ([(⟨k, 0, 1⟩ : An)]) = [])) (q4 : ¬ ((rightE (mergeF l ([(⟨k, 0, 1⟩ : An)]))) = 0)) : FnF Try.prog 28 true [.list (l.map encQ), .list [.agg [.int .i64 k, .int .i64 0, .int .i64 1]]] (.tuple [.nilslice, .int .i64 2]) :=
  fn_evF (by kernel_rfl) Try.func28 (by kernel_rfl) 400
      [.d, .d, .d, .d, .d, .d, .c (.slice 0 0 ((mergeF l ([(⟨k, 0, 1⟩ : An)])).length) 0) [.row 3 ((mergeF l ([(⟨k, 0, 1⟩ : An)])).map encQ) 0], .d, .d, .f true (.int .i64 (rightE (mergeF l ([(⟨k, 0, 1⟩ : An)])))), .v (.bool true), .d, .d, .d]
      (by kernel_rfl) (ob := [FnM Try.prog 43 [] [.list (l.map encQ), .list [.agg [.int .i64 k, .int .i64 0, .int .i64 1]], .func (.func 44) [] [], .func (.func 42) [] []] (.slice 0 0 ((mergeF l ([(⟨k, 0, 1⟩ : An)])).length) 0) [.row 3 ((mergeF l ([(⟨k, 0, 1⟩ : An)])).map encQ) 0],
        ∀ e ∈ ((mergeF l ([(⟨k, 0, 1⟩ : An)])).map encQ : List AV), idsOf e = [],
        FnF Try.prog 11 true [.list ((((mergeF l ([(⟨k, 0, 1⟩ : An)])).map encQ).drop 0).take ((mergeF l ([(⟨k, 0, 1⟩ : An)])).length))] (.int .i64 (rightE (mergeF l ([(⟨k, 0, 1⟩ : An)])))),
        ∀ e ∈ ((mergeF l ([(⟨k, 0, 1⟩ : An)])).map encQ : List AV), idsOf e = [],
        (.bool ((rightE (mergeF l ([(⟨k, 0, 1⟩ : An)]))) != 0) : AV) = (.bool true : AV),
        (.nilslice : AV) = (.nilslice : AV),
        (2 : Int) = 2]) (by kernel_rfl)
      ⟨(od_mergeM (a := l) (b := [(⟨k, 0, 1⟩ : An)]) hl (one_bd2 k) (by first | omega | (simp; omega)) q3), ids_map (fun _ => rfl) _, (by rw [rowOut rfl]; exact od_right (l := mergeF l ([(⟨k, 0, 1⟩ : An)])) (by have := merge_len l ([(⟨k, 0, 1⟩ : An)]); first | omega | (simp at this; omega))), (by simp [idsOf, idsL, encQ]), (nT q4), rfl, rfl, trivial⟩

theorem ol32_22 {l : List An} {k : Int} (hk : -9223372036854775808 ≤ k ∧ k ≤ 9223372036854775807) (hl : ∀ x ∈ l, BdQ x) (hn : l.length ≤ 900000) (q1 : ¬ (k < 1)) (q2 : ¬ (k > 14)) (q3 : ¬ (mergeF l ([(⟨k, 0, 1⟩ : An)]) = [])) (q4 : ¬ ((rightE (mergeF l ([(⟨k, 0, 1⟩ : An)]))) = 0)) : FnF Try.prog 32 true [.list (l.map encQ), .int .i64 k, .bool false] (.tuple [.nilslice, .int .i64 2]) :=
  fn_evF (by kernel_rfl) Try.func32 (by kernel_rfl) 400
      [.d, .d, .d, .v (.bool false), .d, .d, .v (.bool false), .d, .d, .d, .d, .d, .d, .d, .d, .d, .d, .v (.int .i64 1), .d, .d, .d, .d, .d, .f true (.tuple [.nilslice, .int .i64 2]), .d, .d, .d, .d]
      (by kernel_rfl) (ob := [(.bool (decide (k < 1)) : AV) = (.bool false : AV),
        (.bool (decide (k > 14)) : AV) = (.bool false : AV),
        (.int .i64 (IntKind.wrap .i64 (0 + 1)) : AV) = (.int .i64 1 : AV),
        FnF Try.prog 28 true [.list (l.map encQ), .list [.agg [.int .i64 k, .int .i64 0, .int .i64 1]]] (.tuple [.nilslice, .int .i64 2]),
        ∀ e ∈ ([.agg [.int .i64 k, .int .i64 0, .int .i64 1]] : List AV), idsOf e = [],
        (.nilslice : AV) = (.nilslice : AV),
        (2 : Int) = 2]) (by kernel_rfl)
      ⟨(bF q1), (bF q2), rfl, (ol28_21 hk hl hn q1 q2 q3 q4), (by simp [idsOf, idsL, encQ]), rfl, rfl, trivial⟩

theorem od_learnedF {l : List An} {k : Int} (hk : -9223372036854775808 ≤ k ∧ k ≤ 9223372036854775807) (hl : ∀ x ∈ l, BdQ x) (hn : l.length ≤ 900000) : FnF Try.prog 20 true [.list (l.map encQ), .int .i64 k, .bool false] (.agg [.list ((lrnL l k false).map encQ), .int .i64 (lrnE l k false)]) := by
  by_cases q1 : k < 1
  · exact fn_evF (by kernel_rfl) Try.func20 (by kernel_rfl) 400 [.d, .d, .d, .d, .f true (.tuple [.nilslice, .int .i64 1]), .d, .d, .d, .d, .d, .d, .d, .d, .d] (by kernel_rfl) (ob := [FnF Try.prog 32 true [.list (l.map encQ), .int .i64 k, .bool false] (.tuple [.nilslice, .int .i64 1]), [] = ((lrnL l k false).map encQ : List AV), (1 : Int) = lrnE l k false]) (by kernel_rfl) ⟨(ol32_15 hk hl hn q1), (by first | (unfold lrnE; rw [if_pos (by omega)]; done) | (unfold lrnL; rw [if_pos (by omega)]; rfl; done) | (unfold lrnE; rw [if_neg (by omega)]; simp [joinE, oneQ, rightE_nil, *]; done) | (unfold lrnL; rw [if_neg (by omega)]; first | (simp [joinL, oneQ, rightE_nil, *]; done) | (rw [rowOut rfl]; simp [joinL, oneQ, *]; done))), (by first | (unfold lrnE; rw [if_pos (by omega)]; done) | (unfold lrnL; rw [if_pos (by omega)]; rfl; done) | (unfold lrnE; rw [if_neg (by omega)]; simp [joinE, oneQ, rightE_nil, *]; done) | (unfold lrnL; rw [if_neg (by omega)]; first | (simp [joinL, oneQ, rightE_nil, *]; done) | (rw [rowOut rfl]; simp [joinL, oneQ, *]; done))), trivial⟩
  · by_cases q2 : k > 14
    · exact fn_evF (by kernel_rfl) Try.func20 (by kernel_rfl) 400 [.d, .d, .d, .d, .f true (.tuple [.nilslice, .int .i64 1]), .d, .d, .d, .d, .d, .d, .d, .d, .d] (by kernel_rfl) (ob := [FnF Try.prog 32 true [.list (l.map encQ), .int .i64 k, .bool false] (.tuple [.nilslice, .int .i64 1]), [] = ((lrnL l k false).map encQ : List AV), (1 : Int) = lrnE l k false]) (by kernel_rfl) ⟨(ol32_16 hk hl hn q1 q2), (by first | (unfold lrnE; rw [if_pos (by omega)]; done) | (unfold lrnL; rw [if_pos (by omega)]; rfl; done) | (unfold lrnE; rw [if_neg (by omega)]; simp [joinE, oneQ, rightE_nil, *]; done) | (unfold lrnL; rw [if_neg (by omega)]; first | (simp [joinL, oneQ, rightE_nil, *]; done) | (rw [rowOut rfl]; simp [joinL, oneQ, *]; done))), (by first | (unfold lrnE; rw [if_pos (by omega)]; done) | (unfold lrnL; rw [if_pos (by omega)]; rfl; done) | (unfold lrnE; rw [if_neg (by omega)]; simp [joinE, oneQ, rightE_nil, *]; done) | (unfold lrnL; rw [if_neg (by omega)]; first | (simp [joinL, oneQ, rightE_nil, *]; done) | (rw [rowOut rfl]; simp [joinL, oneQ, *]; done))), trivial⟩
    · by_cases q3 : mergeF l ([(⟨k, 0, 1⟩ : An)]) = []
      · exact fn_evF (by kernel_rfl) Try.func20 (by kernel_rfl) 400 [.d, .d, .d, .d, .f true (.tuple [.list [], .int .i64 0]), .d, .d, .d, .d, .d, .d, .d, .d, .d] (by kernel_rfl) (ob := [FnF Try.prog 32 true [.list (l.map encQ), .int .i64 k, .bool false] (.tuple [.list [], .int .i64 0]), ([] : List AV) = (lrnL l k false).map encQ, ([] : List AV) = [], (0 : Int) = lrnE l k false]) (by kernel_rfl) ⟨(ol32_18 hk hl hn q1 q2 q3), (by first | (unfold lrnE; rw [if_pos (by omega)]; done) | (unfold lrnL; rw [if_pos (by omega)]; rfl; done) | (unfold lrnE; rw [if_neg (by omega)]; simp [joinE, oneQ, rightE_nil, *]; done) | (unfold lrnL; rw [if_neg (by omega)]; first | (simp [joinL, oneQ, rightE_nil, *]; done) | (rw [rowOut rfl]; simp [joinL, oneQ, *]; done))), rfl, (by first | (unfold lrnE; rw [if_pos (by omega)]; done) | (unfold lrnL; rw [if_pos (by omega)]; rfl; done) | (unfold lrnE; rw [if_neg (by omega)]; simp [joinE, oneQ, rightE_nil, *]; done) | (unfold lrnL; rw [if_neg (by omega)]; first | (simp [joinL, oneQ, rightE_nil, *]; done) | (rw [rowOut rfl]; simp [joinL, oneQ, *]; done))), trivial⟩
      · by_cases q4 : (rightE (mergeF l ([(⟨k, 0, 1⟩ : An)]))) = 0
        · exact fn_evF (by kernel_rfl) Try.func20 (by kernel_rfl) 400 [.d, .d, .d, .d, .c (.tuple [.slice 0 0 ((mergeF l ([(⟨k, 0, 1⟩ : An)])).length) 0, .int .i64 0]) [.row 3 ((mergeF l ([(⟨k, 0, 1⟩ : An)])).map encQ) 0], .d, .d, .d, .d, .d, .d, .d, .d, .d] (by kernel_rfl) (ob := [FnM Try.prog 32 [] [.list (l.map encQ), .int .i64 k, .bool false] (.tuple [.slice 0 0 ((mergeF l ([(⟨k, 0, 1⟩ : An)])).length) 0, .int .i64 0]) [.row 3 ((mergeF l ([(⟨k, 0, 1⟩ : An)])).map encQ) 0], ∀ e ∈ ((mergeF l ([(⟨k, 0, 1⟩ : An)])).map encQ : List AV), idsOf e = [], (((mergeF l ([(⟨k, 0, 1⟩ : An)])).map encQ : List AV).drop 0).take ((mergeF l ([(⟨k, 0, 1⟩ : An)])).length) = (lrnL l k false).map encQ, ∀ e ∈ ((mergeF l ([(⟨k, 0, 1⟩ : An)])).map encQ : List AV), plainE e, (0 : Int) = lrnE l k false]) (by kernel_rfl) ⟨(ol32_20 hk hl hn q1 q2 q3 q4), ids_map (fun _ => rfl) _, (by first | (unfold lrnE; rw [if_pos (by omega)]; done) | (unfold lrnL; rw [if_pos (by omega)]; rfl; done) | (unfold lrnE; rw [if_neg (by omega)]; simp [joinE, oneQ, rightE_nil, *]; done) | (unfold lrnL; rw [if_neg (by omega)]; first | (simp [joinL, oneQ, rightE_nil, *]; done) | (rw [rowOut rfl]; simp [joinL, oneQ, *]; done))), pl_map (fun _ => rfl) (fun _ => rfl) _, (by first | (unfold lrnE; rw [if_pos (by omega)]; done) | (unfold lrnL; rw [if_pos (by omega)]; rfl; done) | (unfold lrnE; rw [if_neg (by omega)]; simp [joinE, oneQ, rightE_nil, *]; done) | (unfold lrnL; rw [if_neg (by omega)]; first | (simp [joinL, oneQ, rightE_nil, *]; done) | (rw [rowOut rfl]; simp [joinL, oneQ, *]; done))), trivial⟩
        · exact fn_evF (by kernel_rfl) Try.func20 (by kernel_rfl) 400 [.d, .d, .d, .d, .f true (.tuple [.nilslice, .int .i64 2]), .d, .d, .d, .d, .d, .d, .d, .d, .d] (by kernel_rfl) (ob := [FnF Try.prog 32 true [.list (l.map encQ), .int .i64 k, .bool false] (.tuple [.nilslice, .int .i64 2]), [] = ((lrnL l k false).map encQ : List AV), (2 : Int) = lrnE l k false]) (by kernel_rfl) ⟨(ol32_22 hk hl hn q1 q2 q3 q4), (by first | (unfold lrnE; rw [if_pos (by omega)]; done) | (unfold lrnL; rw [if_pos (by omega)]; rfl; done) | (unfold lrnE; rw [if_neg (by omega)]; simp [joinE, oneQ, rightE_nil, *]; done) | (unfold lrnL; rw [if_neg (by omega)]; first | (simp [joinL, oneQ, rightE_nil, *]; done) | (rw [rowOut rfl]; simp [joinL, oneQ, *]; done))), (by first | (unfold lrnE; rw [if_pos (by omega)]; done) | (unfold lrnL; rw [if_pos (by omega)]; rfl; done) | (unfold lrnE; rw [if_neg (by omega)]; simp [joinE, oneQ, rightE_nil, *]; done) | (unfold lrnL; rw [if_neg (by omega)]; first | (simp [joinL, oneQ, rightE_nil, *]; done) | (rw [rowOut rfl]; simp [joinL, oneQ, *]; done))), trivial⟩

theorem od_learnedB {l : List An} {k : Int} {r : Bool} (hk : -9223372036854775808 ≤ k ∧ k ≤ 9223372036854775807) (hl : ∀ x ∈ l, BdQ x) (hn : l.length ≤ 900000) : FnF Try.prog 20 true [.list (l.map encQ), .int .i64 k, .bool r] (.agg [.list ((lrnL l k r).map encQ), .int .i64 (lrnE l k r)]) := by
  cases r
  · exact od_learnedF hk hl hn
  · exact od_learned hk hl hn

end Go.Proofs.Ytlhmionefjopiaa
