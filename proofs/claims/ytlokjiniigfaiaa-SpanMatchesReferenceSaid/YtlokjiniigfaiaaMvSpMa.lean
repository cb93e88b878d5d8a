/- parolelaw10.SpanMatchesReference: callees -/
import Derived.Test.YtlokjiniigfaiaaMvRest
import Derived.Test.YtlokjiniigfaiaaMvEx
import Derived.Test.YtlokjiniigfaiaaProg
set_option linter.unusedVariables false
set_option linter.unusedSimpArgs false
namespace Go.Proofs.Ytlokjiniigfaiaa
open Go.RowKit
set_option maxRecDepth 100000
theorem and_255 (z : Int) : 0 ≤ andS z 255 ∧ andS z 255 ≤ 255 := by
  show 0 ≤ IntKind.i64.wrap ((BitVec.ofInt 64 z &&& BitVec.ofInt 64 255).toNat : Int) ∧ IntKind.i64.wrap ((BitVec.ofInt 64 z &&& BitVec.ofInt 64 255).toNat : Int) ≤ 255
  rw [BitVec.toNat_and, show (BitVec.ofInt 64 255).toNat = 255 from by decide]
  have : (BitVec.ofInt 64 z).toNat &&& 255 ≤ 255 := Nat.and_le_right
  rw [IntWalk.i64_in _ (by omega)]
  omega
set_option maxHeartbeats 1000000 in
theorem ms24_32 {x0 x1 x2 x3 y0 y1 y2 y3 z0 z1 z2 z3 z4 z5 : Int} {a b : Ab} (ga : Good a) (gb : Good b) (ha : madeS x0 x1 x2 x3 = a) (hb : madeS y0 y1 y2 y3 = b) (ma : a.m ≤ 1048576) (mb : b.m ≤ 1048576) (hx0 : -9223372036854775808 ≤ x0 ∧ x0 ≤ 9223372036854775807) (hy0 : -9223372036854775808 ≤ y0 ∧ y0 ≤ 9223372036854775807) (hz0 : -9223372036854775808 ≤ z0 ∧ z0 ≤ 9223372036854775807) (hz1 : -9223372036854775808 ≤ z1 ∧ z1 ≤ 9223372036854775807) (hz2 : -9223372036854775808 ≤ z2 ∧ z2 ≤ 9223372036854775807) (hz3 : -9223372036854775808 ≤ z3 ∧ z3 ≤ 9223372036854775807) (hz4 : -9223372036854775808 ≤ z4 ∧ z4 ≤ 9223372036854775807) (hz5 : -9223372036854775808 ≤ z5 ∧ z5 ≤ 9223372036854775807) (ka : -2147483648 ≤ a.lo ∧ a.lo ≤ a.hi ∧ a.hi ≤ 2147483647 ∧ 0 ≤ a.k ∧ a.k ≤ 255 ∧ 1 ≤ a.m ∧ a.m ≤ 4294967296 ∧ 0 ≤ stepS a ∧ stepS a ≤ 4294967296) (kb : -2147483648 ≤ b.lo ∧ b.lo ≤ b.hi ∧ b.hi ≤ 2147483647 ∧ 0 ≤ b.k ∧ b.k ≤ 255 ∧ 1 ≤ b.m ∧ b.m ≤ 4294967296 ∧ 0 ≤ stepS b ∧ stepS b ≤ 4294967296) (kw0 : -2147483648 ≤ wrap32 z0 ∧ wrap32 z0 ≤ 2147483647) (kw2 : -2147483648 ≤ wrap32 z2 ∧ wrap32 z2 ≤ 2147483647) (kw3 : -2147483648 ≤ wrap32 z3 ∧ wrap32 z3 ≤ 2147483647) (km1 : 0 ≤ andS z1 255 ∧ andS z1 255 ≤ 255) (km4 : 0 ≤ andS z4 255 ∧ andS z4 255 ≤ 255) : FnF Try.prog 24 true [.agg [iA (wrap32 z0), iA (bits .and .i64 z1 255)]] (encA (byS (wrap32 z0) (wrap32 z0) 0 (bits .and .i64 z1 255))) :=
  fn_evF (by kernel_rfl) Try.func24 (by kernel_rfl) 400
      [.d, .d, .d, .d, .d, .d, .d, .d, .f true (encA (byS (wrap32 z0) (wrap32 z0) 0 (bits .and .i64 z1 255))), .d]
      (by kernel_rfl) (ob := [FnF Try.prog 46 true [iA (wrap32 z0), iA (wrap32 z0), iA 0, iA (bits .and .i64 z1 255)] (encA (byS (wrap32 z0) (wrap32 z0) 0 (bits .and .i64 z1 255))),
        ((byS (wrap32 z0) (wrap32 z0) 0 (bits .and .i64 z1 255)).lo : Int) = (byS (wrap32 z0) (wrap32 z0) 0 (bits .and .i64 z1 255)).lo,
        ((byS (wrap32 z0) (wrap32 z0) 0 (bits .and .i64 z1 255)).hi : Int) = (byS (wrap32 z0) (wrap32 z0) 0 (bits .and .i64 z1 255)).hi,
        ((byS (wrap32 z0) (wrap32 z0) 0 (bits .and .i64 z1 255)).m : Int) = (byS (wrap32 z0) (wrap32 z0) 0 (bits .and .i64 z1 255)).m,
        ((byS (wrap32 z0) (wrap32 z0) 0 (bits .and .i64 z1 255)).r : Int) = (byS (wrap32 z0) (wrap32 z0) 0 (bits .and .i64 z1 255)).r,
        ((byS (wrap32 z0) (wrap32 z0) 0 (bits .and .i64 z1 255)).k : Int) = (byS (wrap32 z0) (wrap32 z0) 0 (bits .and .i64 z1 255)).k]) (by kernel_rfl)
      ⟨mv_by (by omega) (by omega) (by omega) (by omega) (by omega) (by omega) (by omega) (by omega), rfl, rfl, rfl, rfl, rfl, trivial⟩

set_option maxHeartbeats 1000000 in
theorem ms25_33 {x0 x1 x2 x3 y0 y1 y2 y3 z0 z1 z2 z3 z4 z5 : Int} {a b : Ab} (ga : Good a) (gb : Good b) (ha : madeS x0 x1 x2 x3 = a) (hb : madeS y0 y1 y2 y3 = b) (ma : a.m ≤ 1048576) (mb : b.m ≤ 1048576) (hx0 : -9223372036854775808 ≤ x0 ∧ x0 ≤ 9223372036854775807) (hy0 : -9223372036854775808 ≤ y0 ∧ y0 ≤ 9223372036854775807) (hz0 : -9223372036854775808 ≤ z0 ∧ z0 ≤ 9223372036854775807) (hz1 : -9223372036854775808 ≤ z1 ∧ z1 ≤ 9223372036854775807) (hz2 : -9223372036854775808 ≤ z2 ∧ z2 ≤ 9223372036854775807) (hz3 : -9223372036854775808 ≤ z3 ∧ z3 ≤ 9223372036854775807) (hz4 : -9223372036854775808 ≤ z4 ∧ z4 ≤ 9223372036854775807) (hz5 : -9223372036854775808 ≤ z5 ∧ z5 ≤ 9223372036854775807) (ka : -2147483648 ≤ a.lo ∧ a.lo ≤ a.hi ∧ a.hi ≤ 2147483647 ∧ 0 ≤ a.k ∧ a.k ≤ 255 ∧ 1 ≤ a.m ∧ a.m ≤ 4294967296 ∧ 0 ≤ stepS a ∧ stepS a ≤ 4294967296) (kb : -2147483648 ≤ b.lo ∧ b.lo ≤ b.hi ∧ b.hi ≤ 2147483647 ∧ 0 ≤ b.k ∧ b.k ≤ 255 ∧ 1 ≤ b.m ∧ b.m ≤ 4294967296 ∧ 0 ≤ stepS b ∧ stepS b ≤ 4294967296) (kw0 : -2147483648 ≤ wrap32 z0 ∧ wrap32 z0 ≤ 2147483647) (kw2 : -2147483648 ≤ wrap32 z2 ∧ wrap32 z2 ≤ 2147483647) (kw3 : -2147483648 ≤ wrap32 z3 ∧ wrap32 z3 ≤ 2147483647) (km1 : 0 ≤ andS z1 255 ∧ andS z1 255 ≤ 255) (km4 : 0 ≤ andS z4 255 ∧ andS z4 255 ≤ 255) : FnF Try.prog 25 true [.agg [iA (wrap32 z0), iA (bits .and .i64 z1 255)]] (encA (byS (wrap32 z0) (wrap32 z0) 0 (bits .and .i64 z1 255))) :=
  fn_evF (by kernel_rfl) Try.func25 (by kernel_rfl) 400
      [.d, .d, .d, .d, .d, .d, .d, .d, .f true (encA (byS (wrap32 z0) (wrap32 z0) 0 (bits .and .i64 z1 255))), .d]
      (by kernel_rfl) (ob := [FnF Try.prog 54 true [iA (wrap32 z0), iA (wrap32 z0), iA 0, iA (bits .and .i64 z1 255)] (encA (byS (wrap32 z0) (wrap32 z0) 0 (bits .and .i64 z1 255))),
        ((byS (wrap32 z0) (wrap32 z0) 0 (bits .and .i64 z1 255)).lo : Int) = (byS (wrap32 z0) (wrap32 z0) 0 (bits .and .i64 z1 255)).lo,
        ((byS (wrap32 z0) (wrap32 z0) 0 (bits .and .i64 z1 255)).hi : Int) = (byS (wrap32 z0) (wrap32 z0) 0 (bits .and .i64 z1 255)).hi,
        ((byS (wrap32 z0) (wrap32 z0) 0 (bits .and .i64 z1 255)).m : Int) = (byS (wrap32 z0) (wrap32 z0) 0 (bits .and .i64 z1 255)).m,
        ((byS (wrap32 z0) (wrap32 z0) 0 (bits .and .i64 z1 255)).r : Int) = (byS (wrap32 z0) (wrap32 z0) 0 (bits .and .i64 z1 255)).r,
        ((byS (wrap32 z0) (wrap32 z0) 0 (bits .and .i64 z1 255)).k : Int) = (byS (wrap32 z0) (wrap32 z0) 0 (bits .and .i64 z1 255)).k]) (by kernel_rfl)
      ⟨mv_rby (by omega) (by omega) (by omega) (by omega) (by omega) (by omega), rfl, rfl, rfl, rfl, rfl, trivial⟩

set_option maxHeartbeats 1000000 in
theorem ms20_34 {x0 x1 x2 x3 y0 y1 y2 y3 z0 z1 z2 z3 z4 z5 : Int} {a b : Ab} (ga : Good a) (gb : Good b) (ha : madeS x0 x1 x2 x3 = a) (hb : madeS y0 y1 y2 y3 = b) (ma : a.m ≤ 1048576) (mb : b.m ≤ 1048576) (hx0 : -9223372036854775808 ≤ x0 ∧ x0 ≤ 9223372036854775807) (hy0 : -9223372036854775808 ≤ y0 ∧ y0 ≤ 9223372036854775807) (hz0 : -9223372036854775808 ≤ z0 ∧ z0 ≤ 9223372036854775807) (hz1 : -9223372036854775808 ≤ z1 ∧ z1 ≤ 9223372036854775807) (hz2 : -9223372036854775808 ≤ z2 ∧ z2 ≤ 9223372036854775807) (hz3 : -9223372036854775808 ≤ z3 ∧ z3 ≤ 9223372036854775807) (hz4 : -9223372036854775808 ≤ z4 ∧ z4 ≤ 9223372036854775807) (hz5 : -9223372036854775808 ≤ z5 ∧ z5 ≤ 9223372036854775807) (ka : -2147483648 ≤ a.lo ∧ a.lo ≤ a.hi ∧ a.hi ≤ 2147483647 ∧ 0 ≤ a.k ∧ a.k ≤ 255 ∧ 1 ≤ a.m ∧ a.m ≤ 4294967296 ∧ 0 ≤ stepS a ∧ stepS a ≤ 4294967296) (kb : -2147483648 ≤ b.lo ∧ b.lo ≤ b.hi ∧ b.hi ≤ 2147483647 ∧ 0 ≤ b.k ∧ b.k ≤ 255 ∧ 1 ≤ b.m ∧ b.m ≤ 4294967296 ∧ 0 ≤ stepS b ∧ stepS b ≤ 4294967296) (kw0 : -2147483648 ≤ wrap32 z0 ∧ wrap32 z0 ≤ 2147483647) (kw2 : -2147483648 ≤ wrap32 z2 ∧ wrap32 z2 ≤ 2147483647) (kw3 : -2147483648 ≤ wrap32 z3 ∧ wrap32 z3 ≤ 2147483647) (km1 : 0 ≤ andS z1 255 ∧ andS z1 255 ≤ 255) (km4 : 0 ≤ andS z4 255 ∧ andS z4 255 ≤ 255) (q1 : (meetI a b) = true) : FnF Try.prog 20 true [encA a, encA b] (.agg [iA ((meetK a b (andS a.k b.k)).lo), iA ((meetK a b (andS a.k b.k)).hi), iA ((meetK a b (andS a.k b.k)).m), iA ((meetK a b (andS a.k b.k)).r), iA ((meetK a b (andS a.k b.k)).k), .bool true]) :=
  fn_evF (by kernel_rfl) Try.func20 (by kernel_rfl) 400
      [.d, .d, .d, .d, .d, .f true (.tuple [encA (meetK a b (andS a.k b.k)), .bool (meetI a b)]), .d, .d, .d, .d, .d, .v (.bool true), .d, .d, .d, .d]
      (by kernel_rfl) (ob := [FnF Try.prog 52 true [encA a, encA b] (.tuple [encA (meetK a b (andS a.k b.k)), .bool (meetI a b)]),
        (.bool (meetI a b) : AV) = (.bool true : AV),
        ((meetK a b (andS a.k b.k)).lo : Int) = (meetK a b (andS a.k b.k)).lo,
        ((meetK a b (andS a.k b.k)).hi : Int) = (meetK a b (andS a.k b.k)).hi,
        ((meetK a b (andS a.k b.k)).m : Int) = (meetK a b (andS a.k b.k)).m,
        ((meetK a b (andS a.k b.k)).r : Int) = (meetK a b (andS a.k b.k)).r,
        ((meetK a b (andS a.k b.k)).k : Int) = (meetK a b (andS a.k b.k)).k,
        (true : Bool) = true]) (by kernel_rfl)
      ⟨mv_meet ga gb, (bBT q1), rfl, rfl, rfl, rfl, rfl, rfl, trivial⟩

set_option maxHeartbeats 1000000 in
theorem ms20_35 {x0 x1 x2 x3 y0 y1 y2 y3 z0 z1 z2 z3 z4 z5 : Int} {a b : Ab} (ga : Good a) (gb : Good b) (ha : madeS x0 x1 x2 x3 = a) (hb : madeS y0 y1 y2 y3 = b) (ma : a.m ≤ 1048576) (mb : b.m ≤ 1048576) (hx0 : -9223372036854775808 ≤ x0 ∧ x0 ≤ 9223372036854775807) (hy0 : -9223372036854775808 ≤ y0 ∧ y0 ≤ 9223372036854775807) (hz0 : -9223372036854775808 ≤ z0 ∧ z0 ≤ 9223372036854775807) (hz1 : -9223372036854775808 ≤ z1 ∧ z1 ≤ 9223372036854775807) (hz2 : -9223372036854775808 ≤ z2 ∧ z2 ≤ 9223372036854775807) (hz3 : -9223372036854775808 ≤ z3 ∧ z3 ≤ 9223372036854775807) (hz4 : -9223372036854775808 ≤ z4 ∧ z4 ≤ 9223372036854775807) (hz5 : -9223372036854775808 ≤ z5 ∧ z5 ≤ 9223372036854775807) (ka : -2147483648 ≤ a.lo ∧ a.lo ≤ a.hi ∧ a.hi ≤ 2147483647 ∧ 0 ≤ a.k ∧ a.k ≤ 255 ∧ 1 ≤ a.m ∧ a.m ≤ 4294967296 ∧ 0 ≤ stepS a ∧ stepS a ≤ 4294967296) (kb : -2147483648 ≤ b.lo ∧ b.lo ≤ b.hi ∧ b.hi ≤ 2147483647 ∧ 0 ≤ b.k ∧ b.k ≤ 255 ∧ 1 ≤ b.m ∧ b.m ≤ 4294967296 ∧ 0 ≤ stepS b ∧ stepS b ≤ 4294967296) (kw0 : -2147483648 ≤ wrap32 z0 ∧ wrap32 z0 ≤ 2147483647) (kw2 : -2147483648 ≤ wrap32 z2 ∧ wrap32 z2 ≤ 2147483647) (kw3 : -2147483648 ≤ wrap32 z3 ∧ wrap32 z3 ≤ 2147483647) (km1 : 0 ≤ andS z1 255 ∧ andS z1 255 ≤ 255) (km4 : 0 ≤ andS z4 255 ∧ andS z4 255 ≤ 255) (q1 : ¬ ((meetI a b) = true)) : FnF Try.prog 20 true [encA a, encA b] (.agg [iA ((meetK a b (andS a.k b.k)).lo), iA ((meetK a b (andS a.k b.k)).hi), iA ((meetK a b (andS a.k b.k)).m), iA ((meetK a b (andS a.k b.k)).r), iA ((meetK a b (andS a.k b.k)).k), .bool false]) :=
  fn_evF (by kernel_rfl) Try.func20 (by kernel_rfl) 400
      [.d, .d, .d, .d, .d, .f true (.tuple [encA (meetK a b (andS a.k b.k)), .bool (meetI a b)]), .d, .d, .d, .d, .d, .v (.bool false), .d, .d, .d, .d]
      (by kernel_rfl) (ob := [FnF Try.prog 52 true [encA a, encA b] (.tuple [encA (meetK a b (andS a.k b.k)), .bool (meetI a b)]),
        (.bool (meetI a b) : AV) = (.bool false : AV),
        ((meetK a b (andS a.k b.k)).lo : Int) = (meetK a b (andS a.k b.k)).lo,
        ((meetK a b (andS a.k b.k)).hi : Int) = (meetK a b (andS a.k b.k)).hi,
        ((meetK a b (andS a.k b.k)).m : Int) = (meetK a b (andS a.k b.k)).m,
        ((meetK a b (andS a.k b.k)).r : Int) = (meetK a b (andS a.k b.k)).r,
        ((meetK a b (andS a.k b.k)).k : Int) = (meetK a b (andS a.k b.k)).k,
        (false : Bool) = false]) (by kernel_rfl)
      ⟨mv_meet ga gb, (bBF q1), rfl, rfl, rfl, rfl, rfl, rfl, trivial⟩

set_option maxHeartbeats 1000000 in
theorem ms30_36 {x0 x1 x2 x3 y0 y1 y2 y3 z0 z1 z2 z3 z4 z5 : Int} {a b : Ab} (ga : Good a) (gb : Good b) (ha : madeS x0 x1 x2 x3 = a) (hb : madeS y0 y1 y2 y3 = b) (ma : a.m ≤ 1048576) (mb : b.m ≤ 1048576) (hx0 : -9223372036854775808 ≤ x0 ∧ x0 ≤ 9223372036854775807) (hy0 : -9223372036854775808 ≤ y0 ∧ y0 ≤ 9223372036854775807) (hz0 : -9223372036854775808 ≤ z0 ∧ z0 ≤ 9223372036854775807) (hz1 : -9223372036854775808 ≤ z1 ∧ z1 ≤ 9223372036854775807) (hz2 : -9223372036854775808 ≤ z2 ∧ z2 ≤ 9223372036854775807) (hz3 : -9223372036854775808 ≤ z3 ∧ z3 ≤ 9223372036854775807) (hz4 : -9223372036854775808 ≤ z4 ∧ z4 ≤ 9223372036854775807) (hz5 : -9223372036854775808 ≤ z5 ∧ z5 ≤ 9223372036854775807) (ka : -2147483648 ≤ a.lo ∧ a.lo ≤ a.hi ∧ a.hi ≤ 2147483647 ∧ 0 ≤ a.k ∧ a.k ≤ 255 ∧ 1 ≤ a.m ∧ a.m ≤ 4294967296 ∧ 0 ≤ stepS a ∧ stepS a ≤ 4294967296) (kb : -2147483648 ≤ b.lo ∧ b.lo ≤ b.hi ∧ b.hi ≤ 2147483647 ∧ 0 ≤ b.k ∧ b.k ≤ 255 ∧ 1 ≤ b.m ∧ b.m ≤ 4294967296 ∧ 0 ≤ stepS b ∧ stepS b ≤ 4294967296) (kw0 : -2147483648 ≤ wrap32 z0 ∧ wrap32 z0 ≤ 2147483647) (kw2 : -2147483648 ≤ wrap32 z2 ∧ wrap32 z2 ≤ 2147483647) (kw3 : -2147483648 ≤ wrap32 z3 ∧ wrap32 z3 ≤ 2147483647) (km1 : 0 ≤ andS z1 255 ∧ andS z1 255 ≤ 255) (km4 : 0 ≤ andS z4 255 ∧ andS z4 255 ≤ 255) : FnF Try.prog 30 true [.agg [iA (min (wrap32 z2) (wrap32 z3)), iA (max (wrap32 z2) (wrap32 z3)), iA (bits .and .i64 z4 255)]] (encA (byS (min (wrap32 z2) (wrap32 z3)) (max (wrap32 z2) (wrap32 z3)) 1 (bits .and .i64 z4 255))) :=
  fn_evF (by kernel_rfl) Try.func30 (by kernel_rfl) 400
      [.d, .d, .d, .d, .d, .d, .d, .d, .f true (encA (byS (min (wrap32 z2) (wrap32 z3)) (max (wrap32 z2) (wrap32 z3)) 1 (bits .and .i64 z4 255))), .d]
      (by kernel_rfl) (ob := [FnF Try.prog 46 true [iA (min (wrap32 z2) (wrap32 z3)), iA (max (wrap32 z2) (wrap32 z3)), iA 1, iA (bits .and .i64 z4 255)] (encA (byS (min (wrap32 z2) (wrap32 z3)) (max (wrap32 z2) (wrap32 z3)) 1 (bits .and .i64 z4 255))),
        ((byS (min (wrap32 z2) (wrap32 z3)) (max (wrap32 z2) (wrap32 z3)) 1 (bits .and .i64 z4 255)).lo : Int) = (byS (min (wrap32 z2) (wrap32 z3)) (max (wrap32 z2) (wrap32 z3)) 1 (bits .and .i64 z4 255)).lo,
        ((byS (min (wrap32 z2) (wrap32 z3)) (max (wrap32 z2) (wrap32 z3)) 1 (bits .and .i64 z4 255)).hi : Int) = (byS (min (wrap32 z2) (wrap32 z3)) (max (wrap32 z2) (wrap32 z3)) 1 (bits .and .i64 z4 255)).hi,
        ((byS (min (wrap32 z2) (wrap32 z3)) (max (wrap32 z2) (wrap32 z3)) 1 (bits .and .i64 z4 255)).m : Int) = (byS (min (wrap32 z2) (wrap32 z3)) (max (wrap32 z2) (wrap32 z3)) 1 (bits .and .i64 z4 255)).m,
        ((byS (min (wrap32 z2) (wrap32 z3)) (max (wrap32 z2) (wrap32 z3)) 1 (bits .and .i64 z4 255)).r : Int) = (byS (min (wrap32 z2) (wrap32 z3)) (max (wrap32 z2) (wrap32 z3)) 1 (bits .and .i64 z4 255)).r,
        ((byS (min (wrap32 z2) (wrap32 z3)) (max (wrap32 z2) (wrap32 z3)) 1 (bits .and .i64 z4 255)).k : Int) = (byS (min (wrap32 z2) (wrap32 z3)) (max (wrap32 z2) (wrap32 z3)) 1 (bits .and .i64 z4 255)).k]) (by kernel_rfl)
      ⟨mv_by (by omega) (by omega) (by omega) (by omega) (by omega) (by omega) (by omega) (by omega), rfl, rfl, rfl, rfl, rfl, trivial⟩

set_option maxHeartbeats 1000000 in
theorem ms31_37 {x0 x1 x2 x3 y0 y1 y2 y3 z0 z1 z2 z3 z4 z5 : Int} {a b : Ab} (ga : Good a) (gb : Good b) (ha : madeS x0 x1 x2 x3 = a) (hb : madeS y0 y1 y2 y3 = b) (ma : a.m ≤ 1048576) (mb : b.m ≤ 1048576) (hx0 : -9223372036854775808 ≤ x0 ∧ x0 ≤ 9223372036854775807) (hy0 : -9223372036854775808 ≤ y0 ∧ y0 ≤ 9223372036854775807) (hz0 : -9223372036854775808 ≤ z0 ∧ z0 ≤ 9223372036854775807) (hz1 : -9223372036854775808 ≤ z1 ∧ z1 ≤ 9223372036854775807) (hz2 : -9223372036854775808 ≤ z2 ∧ z2 ≤ 9223372036854775807) (hz3 : -9223372036854775808 ≤ z3 ∧ z3 ≤ 9223372036854775807) (hz4 : -9223372036854775808 ≤ z4 ∧ z4 ≤ 9223372036854775807) (hz5 : -9223372036854775808 ≤ z5 ∧ z5 ≤ 9223372036854775807) (ka : -2147483648 ≤ a.lo ∧ a.lo ≤ a.hi ∧ a.hi ≤ 2147483647 ∧ 0 ≤ a.k ∧ a.k ≤ 255 ∧ 1 ≤ a.m ∧ a.m ≤ 4294967296 ∧ 0 ≤ stepS a ∧ stepS a ≤ 4294967296) (kb : -2147483648 ≤ b.lo ∧ b.lo ≤ b.hi ∧ b.hi ≤ 2147483647 ∧ 0 ≤ b.k ∧ b.k ≤ 255 ∧ 1 ≤ b.m ∧ b.m ≤ 4294967296 ∧ 0 ≤ stepS b ∧ stepS b ≤ 4294967296) (kw0 : -2147483648 ≤ wrap32 z0 ∧ wrap32 z0 ≤ 2147483647) (kw2 : -2147483648 ≤ wrap32 z2 ∧ wrap32 z2 ≤ 2147483647) (kw3 : -2147483648 ≤ wrap32 z3 ∧ wrap32 z3 ≤ 2147483647) (km1 : 0 ≤ andS z1 255 ∧ andS z1 255 ≤ 255) (km4 : 0 ≤ andS z4 255 ∧ andS z4 255 ≤ 255) : FnF Try.prog 31 true [.agg [iA (min (wrap32 z2) (wrap32 z3)), iA (max (wrap32 z2) (wrap32 z3)), iA (bits .and .i64 z4 255)]] (encA (byS (min (wrap32 z2) (wrap32 z3)) (max (wrap32 z2) (wrap32 z3)) 1 (bits .and .i64 z4 255))) :=
  fn_evF (by kernel_rfl) Try.func31 (by kernel_rfl) 400
      [.d, .d, .d, .d, .d, .d, .d, .d, .f true (encA (byS (min (wrap32 z2) (wrap32 z3)) (max (wrap32 z2) (wrap32 z3)) 1 (bits .and .i64 z4 255))), .d]
      (by kernel_rfl) (ob := [FnF Try.prog 54 true [iA (min (wrap32 z2) (wrap32 z3)), iA (max (wrap32 z2) (wrap32 z3)), iA 1, iA (bits .and .i64 z4 255)] (encA (byS (min (wrap32 z2) (wrap32 z3)) (max (wrap32 z2) (wrap32 z3)) 1 (bits .and .i64 z4 255))),
        ((byS (min (wrap32 z2) (wrap32 z3)) (max (wrap32 z2) (wrap32 z3)) 1 (bits .and .i64 z4 255)).lo : Int) = (byS (min (wrap32 z2) (wrap32 z3)) (max (wrap32 z2) (wrap32 z3)) 1 (bits .and .i64 z4 255)).lo,
        ((byS (min (wrap32 z2) (wrap32 z3)) (max (wrap32 z2) (wrap32 z3)) 1 (bits .and .i64 z4 255)).hi : Int) = (byS (min (wrap32 z2) (wrap32 z3)) (max (wrap32 z2) (wrap32 z3)) 1 (bits .and .i64 z4 255)).hi,
        ((byS (min (wrap32 z2) (wrap32 z3)) (max (wrap32 z2) (wrap32 z3)) 1 (bits .and .i64 z4 255)).m : Int) = (byS (min (wrap32 z2) (wrap32 z3)) (max (wrap32 z2) (wrap32 z3)) 1 (bits .and .i64 z4 255)).m,
        ((byS (min (wrap32 z2) (wrap32 z3)) (max (wrap32 z2) (wrap32 z3)) 1 (bits .and .i64 z4 255)).r : Int) = (byS (min (wrap32 z2) (wrap32 z3)) (max (wrap32 z2) (wrap32 z3)) 1 (bits .and .i64 z4 255)).r,
        ((byS (min (wrap32 z2) (wrap32 z3)) (max (wrap32 z2) (wrap32 z3)) 1 (bits .and .i64 z4 255)).k : Int) = (byS (min (wrap32 z2) (wrap32 z3)) (max (wrap32 z2) (wrap32 z3)) 1 (bits .and .i64 z4 255)).k]) (by kernel_rfl)
      ⟨mv_rby (by omega) (by omega) (by omega) (by omega) (by omega) (by omega), rfl, rfl, rfl, rfl, rfl, trivial⟩

set_option maxHeartbeats 1000000 in
theorem ms32_38 {x0 x1 x2 x3 y0 y1 y2 y3 z0 z1 z2 z3 z4 z5 : Int} {a b : Ab} (ga : Good a) (gb : Good b) (ha : madeS x0 x1 x2 x3 = a) (hb : madeS y0 y1 y2 y3 = b) (ma : a.m ≤ 1048576) (mb : b.m ≤ 1048576) (hx0 : -9223372036854775808 ≤ x0 ∧ x0 ≤ 9223372036854775807) (hy0 : -9223372036854775808 ≤ y0 ∧ y0 ≤ 9223372036854775807) (hz0 : -9223372036854775808 ≤ z0 ∧ z0 ≤ 9223372036854775807) (hz1 : -9223372036854775808 ≤ z1 ∧ z1 ≤ 9223372036854775807) (hz2 : -9223372036854775808 ≤ z2 ∧ z2 ≤ 9223372036854775807) (hz3 : -9223372036854775808 ≤ z3 ∧ z3 ≤ 9223372036854775807) (hz4 : -9223372036854775808 ≤ z4 ∧ z4 ≤ 9223372036854775807) (hz5 : -9223372036854775808 ≤ z5 ∧ z5 ≤ 9223372036854775807) (ka : -2147483648 ≤ a.lo ∧ a.lo ≤ a.hi ∧ a.hi ≤ 2147483647 ∧ 0 ≤ a.k ∧ a.k ≤ 255 ∧ 1 ≤ a.m ∧ a.m ≤ 4294967296 ∧ 0 ≤ stepS a ∧ stepS a ≤ 4294967296) (kb : -2147483648 ≤ b.lo ∧ b.lo ≤ b.hi ∧ b.hi ≤ 2147483647 ∧ 0 ≤ b.k ∧ b.k ≤ 255 ∧ 1 ≤ b.m ∧ b.m ≤ 4294967296 ∧ 0 ≤ stepS b ∧ stepS b ≤ 4294967296) (kw0 : -2147483648 ≤ wrap32 z0 ∧ wrap32 z0 ≤ 2147483647) (kw2 : -2147483648 ≤ wrap32 z2 ∧ wrap32 z2 ≤ 2147483647) (kw3 : -2147483648 ≤ wrap32 z3 ∧ wrap32 z3 ≤ 2147483647) (km1 : 0 ≤ andS z1 255 ∧ andS z1 255 ≤ 255) (km4 : 0 ≤ andS z4 255 ∧ andS z4 255 ≤ 255) : FnF Try.prog 32 true [iA (bits .and .i64 z4 255)] (encA (byS (-2147483648) 2147483647 1 (bits .and .i64 z4 255))) :=
  fn_evF (by kernel_rfl) Try.func32 (by kernel_rfl) 400
      [.d, .d, .f true (encA (byS (-2147483648) 2147483647 1 (bits .and .i64 z4 255))), .d]
      (by kernel_rfl) (ob := [FnF Try.prog 46 true [iA (-2147483648), iA 2147483647, iA 1, iA (bits .and .i64 z4 255)] (encA (byS (-2147483648) 2147483647 1 (bits .and .i64 z4 255))),
        ((byS (-2147483648) 2147483647 1 (bits .and .i64 z4 255)).lo : Int) = (byS (-2147483648) 2147483647 1 (bits .and .i64 z4 255)).lo,
        ((byS (-2147483648) 2147483647 1 (bits .and .i64 z4 255)).hi : Int) = (byS (-2147483648) 2147483647 1 (bits .and .i64 z4 255)).hi,
        ((byS (-2147483648) 2147483647 1 (bits .and .i64 z4 255)).m : Int) = (byS (-2147483648) 2147483647 1 (bits .and .i64 z4 255)).m,
        ((byS (-2147483648) 2147483647 1 (bits .and .i64 z4 255)).r : Int) = (byS (-2147483648) 2147483647 1 (bits .and .i64 z4 255)).r,
        ((byS (-2147483648) 2147483647 1 (bits .and .i64 z4 255)).k : Int) = (byS (-2147483648) 2147483647 1 (bits .and .i64 z4 255)).k]) (by kernel_rfl)
      ⟨mv_by (by omega) (by omega) (by omega) (by omega) (by omega) (by omega) (by omega) (by omega), rfl, rfl, rfl, rfl, rfl, trivial⟩

set_option maxHeartbeats 1000000 in
theorem ms33_39 {x0 x1 x2 x3 y0 y1 y2 y3 z0 z1 z2 z3 z4 z5 : Int} {a b : Ab} (ga : Good a) (gb : Good b) (ha : madeS x0 x1 x2 x3 = a) (hb : madeS y0 y1 y2 y3 = b) (ma : a.m ≤ 1048576) (mb : b.m ≤ 1048576) (hx0 : -9223372036854775808 ≤ x0 ∧ x0 ≤ 9223372036854775807) (hy0 : -9223372036854775808 ≤ y0 ∧ y0 ≤ 9223372036854775807) (hz0 : -9223372036854775808 ≤ z0 ∧ z0 ≤ 9223372036854775807) (hz1 : -9223372036854775808 ≤ z1 ∧ z1 ≤ 9223372036854775807) (hz2 : -9223372036854775808 ≤ z2 ∧ z2 ≤ 9223372036854775807) (hz3 : -9223372036854775808 ≤ z3 ∧ z3 ≤ 9223372036854775807) (hz4 : -9223372036854775808 ≤ z4 ∧ z4 ≤ 9223372036854775807) (hz5 : -9223372036854775808 ≤ z5 ∧ z5 ≤ 9223372036854775807) (ka : -2147483648 ≤ a.lo ∧ a.lo ≤ a.hi ∧ a.hi ≤ 2147483647 ∧ 0 ≤ a.k ∧ a.k ≤ 255 ∧ 1 ≤ a.m ∧ a.m ≤ 4294967296 ∧ 0 ≤ stepS a ∧ stepS a ≤ 4294967296) (kb : -2147483648 ≤ b.lo ∧ b.lo ≤ b.hi ∧ b.hi ≤ 2147483647 ∧ 0 ≤ b.k ∧ b.k ≤ 255 ∧ 1 ≤ b.m ∧ b.m ≤ 4294967296 ∧ 0 ≤ stepS b ∧ stepS b ≤ 4294967296) (kw0 : -2147483648 ≤ wrap32 z0 ∧ wrap32 z0 ≤ 2147483647) (kw2 : -2147483648 ≤ wrap32 z2 ∧ wrap32 z2 ≤ 2147483647) (kw3 : -2147483648 ≤ wrap32 z3 ∧ wrap32 z3 ≤ 2147483647) (km1 : 0 ≤ andS z1 255 ∧ andS z1 255 ≤ 255) (km4 : 0 ≤ andS z4 255 ∧ andS z4 255 ≤ 255) : FnF Try.prog 33 true [iA (bits .and .i64 z4 255)] (encA (byS (-2147483648) 2147483647 1 (bits .and .i64 z4 255))) :=
  fn_evF (by kernel_rfl) Try.func33 (by kernel_rfl) 400
      [.d, .d, .f true (encA (byS (-2147483648) 2147483647 1 (bits .and .i64 z4 255))), .d]
      (by kernel_rfl) (ob := [FnF Try.prog 54 true [iA (-2147483648), iA 2147483647, iA 1, iA (bits .and .i64 z4 255)] (encA (byS (-2147483648) 2147483647 1 (bits .and .i64 z4 255))),
        ((byS (-2147483648) 2147483647 1 (bits .and .i64 z4 255)).lo : Int) = (byS (-2147483648) 2147483647 1 (bits .and .i64 z4 255)).lo,
        ((byS (-2147483648) 2147483647 1 (bits .and .i64 z4 255)).hi : Int) = (byS (-2147483648) 2147483647 1 (bits .and .i64 z4 255)).hi,
        ((byS (-2147483648) 2147483647 1 (bits .and .i64 z4 255)).m : Int) = (byS (-2147483648) 2147483647 1 (bits .and .i64 z4 255)).m,
        ((byS (-2147483648) 2147483647 1 (bits .and .i64 z4 255)).r : Int) = (byS (-2147483648) 2147483647 1 (bits .and .i64 z4 255)).r,
        ((byS (-2147483648) 2147483647 1 (bits .and .i64 z4 255)).k : Int) = (byS (-2147483648) 2147483647 1 (bits .and .i64 z4 255)).k]) (by kernel_rfl)
      ⟨mv_rby (by omega) (by omega) (by omega) (by omega) (by omega) (by omega), rfl, rfl, rfl, rfl, rfl, trivial⟩

set_option maxHeartbeats 1000000 in
theorem ms35_40 {x0 x1 x2 x3 y0 y1 y2 y3 z0 z1 z2 z3 z4 z5 : Int} {a b : Ab} {o : Int} (ga : Good a) (gb : Good b) (ha : madeS x0 x1 x2 x3 = a) (hb : madeS y0 y1 y2 y3 = b) (ma : a.m ≤ 1048576) (mb : b.m ≤ 1048576) (hx0 : -9223372036854775808 ≤ x0 ∧ x0 ≤ 9223372036854775807) (hy0 : -9223372036854775808 ≤ y0 ∧ y0 ≤ 9223372036854775807) (hz0 : -9223372036854775808 ≤ z0 ∧ z0 ≤ 9223372036854775807) (hz1 : -9223372036854775808 ≤ z1 ∧ z1 ≤ 9223372036854775807) (hz2 : -9223372036854775808 ≤ z2 ∧ z2 ≤ 9223372036854775807) (hz3 : -9223372036854775808 ≤ z3 ∧ z3 ≤ 9223372036854775807) (hz4 : -9223372036854775808 ≤ z4 ∧ z4 ≤ 9223372036854775807) (hz5 : -9223372036854775808 ≤ z5 ∧ z5 ≤ 9223372036854775807) (ka : -2147483648 ≤ a.lo ∧ a.lo ≤ a.hi ∧ a.hi ≤ 2147483647 ∧ 0 ≤ a.k ∧ a.k ≤ 255 ∧ 1 ≤ a.m ∧ a.m ≤ 4294967296 ∧ 0 ≤ stepS a ∧ stepS a ≤ 4294967296) (kb : -2147483648 ≤ b.lo ∧ b.lo ≤ b.hi ∧ b.hi ≤ 2147483647 ∧ 0 ≤ b.k ∧ b.k ≤ 255 ∧ 1 ≤ b.m ∧ b.m ≤ 4294967296 ∧ 0 ≤ stepS b ∧ stepS b ≤ 4294967296) (kw0 : -2147483648 ≤ wrap32 z0 ∧ wrap32 z0 ≤ 2147483647) (kw2 : -2147483648 ≤ wrap32 z2 ∧ wrap32 z2 ≤ 2147483647) (kw3 : -2147483648 ≤ wrap32 z3 ∧ wrap32 z3 ≤ 2147483647) (km1 : 0 ≤ andS z1 255 ∧ andS z1 255 ≤ 255) (km4 : 0 ≤ andS z4 255 ∧ andS z4 255 ≤ 255) (ho : -1 ≤ o ∧ o ≤ 13) (q1 : o < 13) (q2 : (rfI o true a b) = true) : FnF Try.prog 35 true [iA o, .bool true, .agg [iA a.lo, iA a.hi, iA a.m, iA a.r, iA a.k, iA b.lo, iA b.hi, iA b.m, iA b.r, iA b.k]] (.agg [iA ((rfA o true a b).lo), iA ((rfA o true a b).hi), iA ((rfA o true a b).m), iA ((rfA o true a b).r), iA ((rfA o true a b).k), iA ((rfB o true a b).lo), iA ((rfB o true a b).hi), iA ((rfB o true a b).m), iA ((rfB o true a b).r), iA ((rfB o true a b).k), .bool true]) :=
  fn_evF (by kernel_rfl) Try.func35 (by kernel_rfl) 400
      [.d, .d, .d, .d, .d, .d, .d, .d, .f true (.tuple [encA (rfA o true a b), encA (rfB o true a b), .bool (rfI o true a b)]), .d, .d, .d, .d, .d, .d, .d, .d, .v (.bool true), .d, .d, .d, .d, .d]
      (by kernel_rfl) (ob := [0 ≤ (0 : Int) ∧ (0 : Int) < (2 : Nat),
        0 ≤ (1 : Int) ∧ (1 : Int) < (2 : Nat),
        FnF Try.prog 66 true [iA o, .bool true, encA a, encA b] (.tuple [encA (rfA o true a b), encA (rfB o true a b), .bool (rfI o true a b)]),
        (.bool (rfI o true a b) : AV) = (.bool true : AV),
        ((rfA o true a b).lo : Int) = (rfA o true a b).lo,
        ((rfA o true a b).hi : Int) = (rfA o true a b).hi,
        ((rfA o true a b).m : Int) = (rfA o true a b).m,
        ((rfA o true a b).r : Int) = (rfA o true a b).r,
        ((rfA o true a b).k : Int) = (rfA o true a b).k,
        ((rfB o true a b).lo : Int) = (rfB o true a b).lo,
        ((rfB o true a b).hi : Int) = (rfB o true a b).hi,
        ((rfB o true a b).m : Int) = (rfB o true a b).m,
        ((rfB o true a b).r : Int) = (rfB o true a b).r,
        ((rfB o true a b).k : Int) = (rfB o true a b).k,
        (true : Bool) = true]) (by kernel_rfl)
      ⟨(by decide), (by decide), mw_srefine (op := o) true ga gb, (bBT q2), rfl, rfl, rfl, rfl, rfl, rfl, rfl, rfl, rfl, rfl, rfl, trivial⟩

set_option maxHeartbeats 1000000 in
theorem ms35_41 {x0 x1 x2 x3 y0 y1 y2 y3 z0 z1 z2 z3 z4 z5 : Int} {a b : Ab} {o : Int} (ga : Good a) (gb : Good b) (ha : madeS x0 x1 x2 x3 = a) (hb : madeS y0 y1 y2 y3 = b) (ma : a.m ≤ 1048576) (mb : b.m ≤ 1048576) (hx0 : -9223372036854775808 ≤ x0 ∧ x0 ≤ 9223372036854775807) (hy0 : -9223372036854775808 ≤ y0 ∧ y0 ≤ 9223372036854775807) (hz0 : -9223372036854775808 ≤ z0 ∧ z0 ≤ 9223372036854775807) (hz1 : -9223372036854775808 ≤ z1 ∧ z1 ≤ 9223372036854775807) (hz2 : -9223372036854775808 ≤ z2 ∧ z2 ≤ 9223372036854775807) (hz3 : -9223372036854775808 ≤ z3 ∧ z3 ≤ 9223372036854775807) (hz4 : -9223372036854775808 ≤ z4 ∧ z4 ≤ 9223372036854775807) (hz5 : -9223372036854775808 ≤ z5 ∧ z5 ≤ 9223372036854775807) (ka : -2147483648 ≤ a.lo ∧ a.lo ≤ a.hi ∧ a.hi ≤ 2147483647 ∧ 0 ≤ a.k ∧ a.k ≤ 255 ∧ 1 ≤ a.m ∧ a.m ≤ 4294967296 ∧ 0 ≤ stepS a ∧ stepS a ≤ 4294967296) (kb : -2147483648 ≤ b.lo ∧ b.lo ≤ b.hi ∧ b.hi ≤ 2147483647 ∧ 0 ≤ b.k ∧ b.k ≤ 255 ∧ 1 ≤ b.m ∧ b.m ≤ 4294967296 ∧ 0 ≤ stepS b ∧ stepS b ≤ 4294967296) (kw0 : -2147483648 ≤ wrap32 z0 ∧ wrap32 z0 ≤ 2147483647) (kw2 : -2147483648 ≤ wrap32 z2 ∧ wrap32 z2 ≤ 2147483647) (kw3 : -2147483648 ≤ wrap32 z3 ∧ wrap32 z3 ≤ 2147483647) (km1 : 0 ≤ andS z1 255 ∧ andS z1 255 ≤ 255) (km4 : 0 ≤ andS z4 255 ∧ andS z4 255 ≤ 255) (ho : -1 ≤ o ∧ o ≤ 13) (q1 : o < 13) (q2 : (rfI o true a b) = true) (q3 : (rfI o false a b) = true) : FnF Try.prog 35 true [iA o, .bool false, .agg [iA a.lo, iA a.hi, iA a.m, iA a.r, iA a.k, iA b.lo, iA b.hi, iA b.m, iA b.r, iA b.k]] (.agg [iA ((rfA o false a b).lo), iA ((rfA o false a b).hi), iA ((rfA o false a b).m), iA ((rfA o false a b).r), iA ((rfA o false a b).k), iA ((rfB o false a b).lo), iA ((rfB o false a b).hi), iA ((rfB o false a b).m), iA ((rfB o false a b).r), iA ((rfB o false a b).k), .bool true]) :=
  fn_evF (by kernel_rfl) Try.func35 (by kernel_rfl) 400
      [.d, .d, .d, .d, .d, .d, .d, .d, .f true (.tuple [encA (rfA o false a b), encA (rfB o false a b), .bool (rfI o false a b)]), .d, .d, .d, .d, .d, .d, .d, .d, .v (.bool true), .d, .d, .d, .d, .d]
      (by kernel_rfl) (ob := [0 ≤ (0 : Int) ∧ (0 : Int) < (2 : Nat),
        0 ≤ (1 : Int) ∧ (1 : Int) < (2 : Nat),
        FnF Try.prog 66 true [iA o, .bool false, encA a, encA b] (.tuple [encA (rfA o false a b), encA (rfB o false a b), .bool (rfI o false a b)]),
        (.bool (rfI o false a b) : AV) = (.bool true : AV),
        ((rfA o false a b).lo : Int) = (rfA o false a b).lo,
        ((rfA o false a b).hi : Int) = (rfA o false a b).hi,
        ((rfA o false a b).m : Int) = (rfA o false a b).m,
        ((rfA o false a b).r : Int) = (rfA o false a b).r,
        ((rfA o false a b).k : Int) = (rfA o false a b).k,
        ((rfB o false a b).lo : Int) = (rfB o false a b).lo,
        ((rfB o false a b).hi : Int) = (rfB o false a b).hi,
        ((rfB o false a b).m : Int) = (rfB o false a b).m,
        ((rfB o false a b).r : Int) = (rfB o false a b).r,
        ((rfB o false a b).k : Int) = (rfB o false a b).k,
        (true : Bool) = true]) (by kernel_rfl)
      ⟨(by decide), (by decide), mw_srefine (op := o) false ga gb, (bBT q3), rfl, rfl, rfl, rfl, rfl, rfl, rfl, rfl, rfl, rfl, rfl, trivial⟩

set_option maxHeartbeats 1000000 in
theorem ms35_42 {x0 x1 x2 x3 y0 y1 y2 y3 z0 z1 z2 z3 z4 z5 : Int} {a b : Ab} {o : Int} (ga : Good a) (gb : Good b) (ha : madeS x0 x1 x2 x3 = a) (hb : madeS y0 y1 y2 y3 = b) (ma : a.m ≤ 1048576) (mb : b.m ≤ 1048576) (hx0 : -9223372036854775808 ≤ x0 ∧ x0 ≤ 9223372036854775807) (hy0 : -9223372036854775808 ≤ y0 ∧ y0 ≤ 9223372036854775807) (hz0 : -9223372036854775808 ≤ z0 ∧ z0 ≤ 9223372036854775807) (hz1 : -9223372036854775808 ≤ z1 ∧ z1 ≤ 9223372036854775807) (hz2 : -9223372036854775808 ≤ z2 ∧ z2 ≤ 9223372036854775807) (hz3 : -9223372036854775808 ≤ z3 ∧ z3 ≤ 9223372036854775807) (hz4 : -9223372036854775808 ≤ z4 ∧ z4 ≤ 9223372036854775807) (hz5 : -9223372036854775808 ≤ z5 ∧ z5 ≤ 9223372036854775807) (ka : -2147483648 ≤ a.lo ∧ a.lo ≤ a.hi ∧ a.hi ≤ 2147483647 ∧ 0 ≤ a.k ∧ a.k ≤ 255 ∧ 1 ≤ a.m ∧ a.m ≤ 4294967296 ∧ 0 ≤ stepS a ∧ stepS a ≤ 4294967296) (kb : -2147483648 ≤ b.lo ∧ b.lo ≤ b.hi ∧ b.hi ≤ 2147483647 ∧ 0 ≤ b.k ∧ b.k ≤ 255 ∧ 1 ≤ b.m ∧ b.m ≤ 4294967296 ∧ 0 ≤ stepS b ∧ stepS b ≤ 4294967296) (kw0 : -2147483648 ≤ wrap32 z0 ∧ wrap32 z0 ≤ 2147483647) (kw2 : -2147483648 ≤ wrap32 z2 ∧ wrap32 z2 ≤ 2147483647) (kw3 : -2147483648 ≤ wrap32 z3 ∧ wrap32 z3 ≤ 2147483647) (km1 : 0 ≤ andS z1 255 ∧ andS z1 255 ≤ 255) (km4 : 0 ≤ andS z4 255 ∧ andS z4 255 ≤ 255) (ho : -1 ≤ o ∧ o ≤ 13) (q1 : o < 13) (q2 : (rfI o true a b) = true) (q3 : ¬ ((rfI o false a b) = true)) : FnF Try.prog 35 true [iA o, .bool false, .agg [iA a.lo, iA a.hi, iA a.m, iA a.r, iA a.k, iA b.lo, iA b.hi, iA b.m, iA b.r, iA b.k]] (.agg [iA ((rfA o false a b).lo), iA ((rfA o false a b).hi), iA ((rfA o false a b).m), iA ((rfA o false a b).r), iA ((rfA o false a b).k), iA ((rfB o false a b).lo), iA ((rfB o false a b).hi), iA ((rfB o false a b).m), iA ((rfB o false a b).r), iA ((rfB o false a b).k), .bool false]) :=
  fn_evF (by kernel_rfl) Try.func35 (by kernel_rfl) 400
      [.d, .d, .d, .d, .d, .d, .d, .d, .f true (.tuple [encA (rfA o false a b), encA (rfB o false a b), .bool (rfI o false a b)]), .d, .d, .d, .d, .d, .d, .d, .d, .v (.bool false), .d, .d, .d, .d, .d]
      (by kernel_rfl) (ob := [0 ≤ (0 : Int) ∧ (0 : Int) < (2 : Nat),
        0 ≤ (1 : Int) ∧ (1 : Int) < (2 : Nat),
        FnF Try.prog 66 true [iA o, .bool false, encA a, encA b] (.tuple [encA (rfA o false a b), encA (rfB o false a b), .bool (rfI o false a b)]),
        (.bool (rfI o false a b) : AV) = (.bool false : AV),
        ((rfA o false a b).lo : Int) = (rfA o false a b).lo,
        ((rfA o false a b).hi : Int) = (rfA o false a b).hi,
        ((rfA o false a b).m : Int) = (rfA o false a b).m,
        ((rfA o false a b).r : Int) = (rfA o false a b).r,
        ((rfA o false a b).k : Int) = (rfA o false a b).k,
        ((rfB o false a b).lo : Int) = (rfB o false a b).lo,
        ((rfB o false a b).hi : Int) = (rfB o false a b).hi,
        ((rfB o false a b).m : Int) = (rfB o false a b).m,
        ((rfB o false a b).r : Int) = (rfB o false a b).r,
        ((rfB o false a b).k : Int) = (rfB o false a b).k,
        (false : Bool) = false]) (by kernel_rfl)
      ⟨(by decide), (by decide), mw_srefine (op := o) false ga gb, (bBF q3), rfl, rfl, rfl, rfl, rfl, rfl, rfl, rfl, rfl, rfl, rfl, trivial⟩

set_option maxHeartbeats 1000000 in
theorem ms35_43 {x0 x1 x2 x3 y0 y1 y2 y3 z0 z1 z2 z3 z4 z5 : Int} {a b : Ab} {o : Int} (ga : Good a) (gb : Good b) (ha : madeS x0 x1 x2 x3 = a) (hb : madeS y0 y1 y2 y3 = b) (ma : a.m ≤ 1048576) (mb : b.m ≤ 1048576) (hx0 : -9223372036854775808 ≤ x0 ∧ x0 ≤ 9223372036854775807) (hy0 : -9223372036854775808 ≤ y0 ∧ y0 ≤ 9223372036854775807) (hz0 : -9223372036854775808 ≤ z0 ∧ z0 ≤ 9223372036854775807) (hz1 : -9223372036854775808 ≤ z1 ∧ z1 ≤ 9223372036854775807) (hz2 : -9223372036854775808 ≤ z2 ∧ z2 ≤ 9223372036854775807) (hz3 : -9223372036854775808 ≤ z3 ∧ z3 ≤ 9223372036854775807) (hz4 : -9223372036854775808 ≤ z4 ∧ z4 ≤ 9223372036854775807) (hz5 : -9223372036854775808 ≤ z5 ∧ z5 ≤ 9223372036854775807) (ka : -2147483648 ≤ a.lo ∧ a.lo ≤ a.hi ∧ a.hi ≤ 2147483647 ∧ 0 ≤ a.k ∧ a.k ≤ 255 ∧ 1 ≤ a.m ∧ a.m ≤ 4294967296 ∧ 0 ≤ stepS a ∧ stepS a ≤ 4294967296) (kb : -2147483648 ≤ b.lo ∧ b.lo ≤ b.hi ∧ b.hi ≤ 2147483647 ∧ 0 ≤ b.k ∧ b.k ≤ 255 ∧ 1 ≤ b.m ∧ b.m ≤ 4294967296 ∧ 0 ≤ stepS b ∧ stepS b ≤ 4294967296) (kw0 : -2147483648 ≤ wrap32 z0 ∧ wrap32 z0 ≤ 2147483647) (kw2 : -2147483648 ≤ wrap32 z2 ∧ wrap32 z2 ≤ 2147483647) (kw3 : -2147483648 ≤ wrap32 z3 ∧ wrap32 z3 ≤ 2147483647) (km1 : 0 ≤ andS z1 255 ∧ andS z1 255 ≤ 255) (km4 : 0 ≤ andS z4 255 ∧ andS z4 255 ≤ 255) (ho : -1 ≤ o ∧ o ≤ 13) (q1 : o < 13) (q2 : ¬ ((rfI o true a b) = true)) : FnF Try.prog 35 true [iA o, .bool true, .agg [iA a.lo, iA a.hi, iA a.m, iA a.r, iA a.k, iA b.lo, iA b.hi, iA b.m, iA b.r, iA b.k]] (.agg [iA ((rfA o true a b).lo), iA ((rfA o true a b).hi), iA ((rfA o true a b).m), iA ((rfA o true a b).r), iA ((rfA o true a b).k), iA ((rfB o true a b).lo), iA ((rfB o true a b).hi), iA ((rfB o true a b).m), iA ((rfB o true a b).r), iA ((rfB o true a b).k), .bool false]) :=
  fn_evF (by kernel_rfl) Try.func35 (by kernel_rfl) 400
      [.d, .d, .d, .d, .d, .d, .d, .d, .f true (.tuple [encA (rfA o true a b), encA (rfB o true a b), .bool (rfI o true a b)]), .d, .d, .d, .d, .d, .d, .d, .d, .v (.bool false), .d, .d, .d, .d, .d]
      (by kernel_rfl) (ob := [0 ≤ (0 : Int) ∧ (0 : Int) < (2 : Nat),
        0 ≤ (1 : Int) ∧ (1 : Int) < (2 : Nat),
        FnF Try.prog 66 true [iA o, .bool true, encA a, encA b] (.tuple [encA (rfA o true a b), encA (rfB o true a b), .bool (rfI o true a b)]),
        (.bool (rfI o true a b) : AV) = (.bool false : AV),
        ((rfA o true a b).lo : Int) = (rfA o true a b).lo,
        ((rfA o true a b).hi : Int) = (rfA o true a b).hi,
        ((rfA o true a b).m : Int) = (rfA o true a b).m,
        ((rfA o true a b).r : Int) = (rfA o true a b).r,
        ((rfA o true a b).k : Int) = (rfA o true a b).k,
        ((rfB o true a b).lo : Int) = (rfB o true a b).lo,
        ((rfB o true a b).hi : Int) = (rfB o true a b).hi,
        ((rfB o true a b).m : Int) = (rfB o true a b).m,
        ((rfB o true a b).r : Int) = (rfB o true a b).r,
        ((rfB o true a b).k : Int) = (rfB o true a b).k,
        (false : Bool) = false]) (by kernel_rfl)
      ⟨(by decide), (by decide), mw_srefine (op := o) true ga gb, (bBF q2), rfl, rfl, rfl, rfl, rfl, rfl, rfl, rfl, rfl, rfl, rfl, trivial⟩

set_option maxHeartbeats 1000000 in
theorem ms35_44 {x0 x1 x2 x3 y0 y1 y2 y3 z0 z1 z2 z3 z4 z5 : Int} {a b : Ab} {o : Int} (ga : Good a) (gb : Good b) (ha : madeS x0 x1 x2 x3 = a) (hb : madeS y0 y1 y2 y3 = b) (ma : a.m ≤ 1048576) (mb : b.m ≤ 1048576) (hx0 : -9223372036854775808 ≤ x0 ∧ x0 ≤ 9223372036854775807) (hy0 : -9223372036854775808 ≤ y0 ∧ y0 ≤ 9223372036854775807) (hz0 : -9223372036854775808 ≤ z0 ∧ z0 ≤ 9223372036854775807) (hz1 : -9223372036854775808 ≤ z1 ∧ z1 ≤ 9223372036854775807) (hz2 : -9223372036854775808 ≤ z2 ∧ z2 ≤ 9223372036854775807) (hz3 : -9223372036854775808 ≤ z3 ∧ z3 ≤ 9223372036854775807) (hz4 : -9223372036854775808 ≤ z4 ∧ z4 ≤ 9223372036854775807) (hz5 : -9223372036854775808 ≤ z5 ∧ z5 ≤ 9223372036854775807) (ka : -2147483648 ≤ a.lo ∧ a.lo ≤ a.hi ∧ a.hi ≤ 2147483647 ∧ 0 ≤ a.k ∧ a.k ≤ 255 ∧ 1 ≤ a.m ∧ a.m ≤ 4294967296 ∧ 0 ≤ stepS a ∧ stepS a ≤ 4294967296) (kb : -2147483648 ≤ b.lo ∧ b.lo ≤ b.hi ∧ b.hi ≤ 2147483647 ∧ 0 ≤ b.k ∧ b.k ≤ 255 ∧ 1 ≤ b.m ∧ b.m ≤ 4294967296 ∧ 0 ≤ stepS b ∧ stepS b ≤ 4294967296) (kw0 : -2147483648 ≤ wrap32 z0 ∧ wrap32 z0 ≤ 2147483647) (kw2 : -2147483648 ≤ wrap32 z2 ∧ wrap32 z2 ≤ 2147483647) (kw3 : -2147483648 ≤ wrap32 z3 ∧ wrap32 z3 ≤ 2147483647) (km1 : 0 ≤ andS z1 255 ∧ andS z1 255 ≤ 255) (km4 : 0 ≤ andS z4 255 ∧ andS z4 255 ≤ 255) (ho : -1 ≤ o ∧ o ≤ 13) (q1 : o < 13) (q2 : ¬ ((rfI o true a b) = true)) (q3 : (rfI o false a b) = true) : FnF Try.prog 35 true [iA o, .bool false, .agg [iA a.lo, iA a.hi, iA a.m, iA a.r, iA a.k, iA b.lo, iA b.hi, iA b.m, iA b.r, iA b.k]] (.agg [iA ((rfA o false a b).lo), iA ((rfA o false a b).hi), iA ((rfA o false a b).m), iA ((rfA o false a b).r), iA ((rfA o false a b).k), iA ((rfB o false a b).lo), iA ((rfB o false a b).hi), iA ((rfB o false a b).m), iA ((rfB o false a b).r), iA ((rfB o false a b).k), .bool true]) :=
  fn_evF (by kernel_rfl) Try.func35 (by kernel_rfl) 400
      [.d, .d, .d, .d, .d, .d, .d, .d, .f true (.tuple [encA (rfA o false a b), encA (rfB o false a b), .bool (rfI o false a b)]), .d, .d, .d, .d, .d, .d, .d, .d, .v (.bool true), .d, .d, .d, .d, .d]
      (by kernel_rfl) (ob := [0 ≤ (0 : Int) ∧ (0 : Int) < (2 : Nat),
        0 ≤ (1 : Int) ∧ (1 : Int) < (2 : Nat),
        FnF Try.prog 66 true [iA o, .bool false, encA a, encA b] (.tuple [encA (rfA o false a b), encA (rfB o false a b), .bool (rfI o false a b)]),
        (.bool (rfI o false a b) : AV) = (.bool true : AV),
        ((rfA o false a b).lo : Int) = (rfA o false a b).lo,
        ((rfA o false a b).hi : Int) = (rfA o false a b).hi,
        ((rfA o false a b).m : Int) = (rfA o false a b).m,
        ((rfA o false a b).r : Int) = (rfA o false a b).r,
        ((rfA o false a b).k : Int) = (rfA o false a b).k,
        ((rfB o false a b).lo : Int) = (rfB o false a b).lo,
        ((rfB o false a b).hi : Int) = (rfB o false a b).hi,
        ((rfB o false a b).m : Int) = (rfB o false a b).m,
        ((rfB o false a b).r : Int) = (rfB o false a b).r,
        ((rfB o false a b).k : Int) = (rfB o false a b).k,
        (true : Bool) = true]) (by kernel_rfl)
      ⟨(by decide), (by decide), mw_srefine (op := o) false ga gb, (bBT q3), rfl, rfl, rfl, rfl, rfl, rfl, rfl, rfl, rfl, rfl, rfl, trivial⟩

set_option maxHeartbeats 1000000 in
theorem ms35_45 {x0 x1 x2 x3 y0 y1 y2 y3 z0 z1 z2 z3 z4 z5 : Int} {a b : Ab} {o : Int} (ga : Good a) (gb : Good b) (ha : madeS x0 x1 x2 x3 = a) (hb : madeS y0 y1 y2 y3 = b) (ma : a.m ≤ 1048576) (mb : b.m ≤ 1048576) (hx0 : -9223372036854775808 ≤ x0 ∧ x0 ≤ 9223372036854775807) (hy0 : -9223372036854775808 ≤ y0 ∧ y0 ≤ 9223372036854775807) (hz0 : -9223372036854775808 ≤ z0 ∧ z0 ≤ 9223372036854775807) (hz1 : -9223372036854775808 ≤ z1 ∧ z1 ≤ 9223372036854775807) (hz2 : -9223372036854775808 ≤ z2 ∧ z2 ≤ 9223372036854775807) (hz3 : -9223372036854775808 ≤ z3 ∧ z3 ≤ 9223372036854775807) (hz4 : -9223372036854775808 ≤ z4 ∧ z4 ≤ 9223372036854775807) (hz5 : -9223372036854775808 ≤ z5 ∧ z5 ≤ 9223372036854775807) (ka : -2147483648 ≤ a.lo ∧ a.lo ≤ a.hi ∧ a.hi ≤ 2147483647 ∧ 0 ≤ a.k ∧ a.k ≤ 255 ∧ 1 ≤ a.m ∧ a.m ≤ 4294967296 ∧ 0 ≤ stepS a ∧ stepS a ≤ 4294967296) (kb : -2147483648 ≤ b.lo ∧ b.lo ≤ b.hi ∧ b.hi ≤ 2147483647 ∧ 0 ≤ b.k ∧ b.k ≤ 255 ∧ 1 ≤ b.m ∧ b.m ≤ 4294967296 ∧ 0 ≤ stepS b ∧ stepS b ≤ 4294967296) (kw0 : -2147483648 ≤ wrap32 z0 ∧ wrap32 z0 ≤ 2147483647) (kw2 : -2147483648 ≤ wrap32 z2 ∧ wrap32 z2 ≤ 2147483647) (kw3 : -2147483648 ≤ wrap32 z3 ∧ wrap32 z3 ≤ 2147483647) (km1 : 0 ≤ andS z1 255 ∧ andS z1 255 ≤ 255) (km4 : 0 ≤ andS z4 255 ∧ andS z4 255 ≤ 255) (ho : -1 ≤ o ∧ o ≤ 13) (q1 : o < 13) (q2 : ¬ ((rfI o true a b) = true)) (q3 : ¬ ((rfI o false a b) = true)) : FnF Try.prog 35 true [iA o, .bool false, .agg [iA a.lo, iA a.hi, iA a.m, iA a.r, iA a.k, iA b.lo, iA b.hi, iA b.m, iA b.r, iA b.k]] (.agg [iA ((rfA o false a b).lo), iA ((rfA o false a b).hi), iA ((rfA o false a b).m), iA ((rfA o false a b).r), iA ((rfA o false a b).k), iA ((rfB o false a b).lo), iA ((rfB o false a b).hi), iA ((rfB o false a b).m), iA ((rfB o false a b).r), iA ((rfB o false a b).k), .bool false]) :=
  fn_evF (by kernel_rfl) Try.func35 (by kernel_rfl) 400
      [.d, .d, .d, .d, .d, .d, .d, .d, .f true (.tuple [encA (rfA o false a b), encA (rfB o false a b), .bool (rfI o false a b)]), .d, .d, .d, .d, .d, .d, .d, .d, .v (.bool false), .d, .d, .d, .d, .d]
      (by kernel_rfl) (ob := [0 ≤ (0 : Int) ∧ (0 : Int) < (2 : Nat),
        0 ≤ (1 : Int) ∧ (1 : Int) < (2 : Nat),
        FnF Try.prog 66 true [iA o, .bool false, encA a, encA b] (.tuple [encA (rfA o false a b), encA (rfB o false a b), .bool (rfI o false a b)]),
        (.bool (rfI o false a b) : AV) = (.bool false : AV),
        ((rfA o false a b).lo : Int) = (rfA o false a b).lo,
        ((rfA o false a b).hi : Int) = (rfA o false a b).hi,
        ((rfA o false a b).m : Int) = (rfA o false a b).m,
        ((rfA o false a b).r : Int) = (rfA o false a b).r,
        ((rfA o false a b).k : Int) = (rfA o false a b).k,
        ((rfB o false a b).lo : Int) = (rfB o false a b).lo,
        ((rfB o false a b).hi : Int) = (rfB o false a b).hi,
        ((rfB o false a b).m : Int) = (rfB o false a b).m,
        ((rfB o false a b).r : Int) = (rfB o false a b).r,
        ((rfB o false a b).k : Int) = (rfB o false a b).k,
        (false : Bool) = false]) (by kernel_rfl)
      ⟨(by decide), (by decide), mw_srefine (op := o) false ga gb, (bBF q3), rfl, rfl, rfl, rfl, rfl, rfl, rfl, rfl, rfl, rfl, rfl, trivial⟩

end Go.Proofs.Ytlokjiniigfaiaa
