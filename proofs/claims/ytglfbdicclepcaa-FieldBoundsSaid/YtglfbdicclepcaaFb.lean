/- Bounds, walked -/
import Derived.Test.YtglfbdicclepcaaFbM
import Derived.Test.YtglfbdicclepcaaRats
import Derived.Test.YtglfbdicclepcaaOdRat
import Derived.Test.YtglfbdicclepcaaFdEx
import Derived.Test.YtglfbdicclepcaaEvQ
import Derived.Test.YtglfbdicclepcaaProg
set_option linter.unusedVariables false
set_option linter.unusedSimpArgs false
namespace Go.Proofs.Ytglfbdicclepcaa
open Go.RowKit
set_option maxRecDepth 100000
set_option maxHeartbeats 1000000 in
theorem pr_sub {a b c d : Int} (h1 : Frc a b) (h2 : Frc c d) : FnF Try.prog 25 true [.agg [.int .i64 a, .int .i64 b], .agg [.int .i64 c, .int .i64 d]] (.tuple [.agg [.int .i64 (addN a b (-c) d), .int .i64 (addD a b (-c) d)], .int .i64 (addE a b (-c) d)]) := by
  have k1 : (-4611686018427387904 ≤ a ∧ a ≤ 4611686018427387904) ∧ 1 ≤ b ∧ b ≤ 4611686018427387904 := h1
  have k2 : (-4611686018427387904 ≤ c ∧ c ≤ 4611686018427387904) ∧ 1 ≤ d ∧ d ≤ 4611686018427387904 := h2
  exact fn_e2 Try.func25 400 [.d, .d, .d, .d, .d, .d, .d, .v (iV (-c)), .d, .d, .d, .f true (.tuple [.agg [iV (addN a b (-c) d), iV (addD a b (-c) d)], iV (addE a b (-c) d)]), .d, .d, .d, .d] (ob := [(iV (IntKind.wrap .i64 (0 - c)) : AV) = (iV (-c) : AV), FnF Try.prog 42 true [.agg [iV a, iV b], .agg [iV (-c), iV d]] (.tuple [.agg [iV (addN a b (-c) d), iV (addD a b (-c) d)], iV (addE a b (-c) d)]), (addN a b (-c) d : Int) = addN a b (-c) d, (addD a b (-c) d : Int) = addD a b (-c) d, (addE a b (-c) d : Int) = addE a b (-c) d]) ⟨iW ((w64 (by omega) (by omega)).trans (by omega)), rt_add (a := a) (b := b) (c := (-c)) (d := d) h1 (by obtain ⟨⟨p, q⟩, r⟩ := h2; exact ⟨⟨by omega, by omega⟩, r⟩), rfl, rfl, rfl, trivial⟩

set_option maxHeartbeats 1000000 in
theorem fb_bound {n : Int} (hn : 0 ≤ n ∧ n ≤ 200000) : FnF Try.prog 38 true [.agg [.int .i64 0, .int .i64 0, .int .i64 1099511627776, .int .i64 n, .int .i64 0, .int .i64 0]] (.tuple [.agg [.int .i64 (bN (max 19 n)), .int .i64 (bD (max 19 n))], .int .i64 0]) := by
  exact fn_e2 Try.func38 400 [.d, .d, .d, .d, .d, .d, .d, .d, .d, .d, .d, .d, .v (.bool false), .d, .d, .d, .d, .d, .f true (.tuple [.agg [iV (19 / (Int.gcd 19 (max 19 n) : Int)), iV ((max 19 n) / (Int.gcd 19 (max 19 n) : Int))], iV 0]), .d, .d, .d, .d] (ob := [(.bool (n == 1099511627776) : AV) = (.bool false : AV), FnF Try.prog 53 true [iV 19, iV (max 19 n)] (.tuple [.agg [iV (19 / (Int.gcd 19 (max 19 n) : Int)), iV ((max 19 n) / (Int.gcd 19 (max 19 n) : Int))], iV 0]), (19 / (Int.gcd 19 (max 19 n) : Int) : Int) = bN (max 19 n), ((max 19 n) / (Int.gcd 19 (max 19 n) : Int) : Int) = bD (max 19 n), (0 : Int) = 0]) ⟨(eF (by omega)), od_new (by omega) (by omega) (by omega) (by omega), rfl, rfl, rfl, trivial⟩

set_option maxHeartbeats 1000000 in
theorem fb_lbound {n : Int} (hn : 0 ≤ n ∧ n ≤ 200000) : FnF Try.prog 21 true [.agg [.int .i64 0, .int .i64 0, .int .i64 1099511627776, .int .i64 n, .int .i64 0, .int .i64 0]] (.agg [.int .i64 (bN (max 19 n)), .int .i64 (bD (max 19 n)), .int .i64 0]) := by
  exact fn_e2 Try.func21 400 [.d, .d, .d, .f true (.tuple [.agg [iV (bN (max 19 n)), iV (bD (max 19 n))], iV 0]), .d, .d, .d, .d, .d, .d, .d, .d, .d, .d] (ob := [FnF Try.prog 38 true [.agg [iV 0, iV 0, iV 1099511627776, iV n, iV 0, iV 0]] (.tuple [.agg [iV (bN (max 19 n)), iV (bD (max 19 n))], iV 0]), (bN (max 19 n) : Int) = bN (max 19 n), (bD (max 19 n) : Int) = bD (max 19 n), (0 : Int) = 0]) ⟨fb_bound (n := n) (by omega), rfl, rfl, rfl, trivial⟩

end Go.Proofs.Ytglfbdicclepcaa
