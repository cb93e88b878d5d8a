/- Has, At and Meet of one set -/
import Derived.Test.YtlokjiniigfaiaaMvMeet
import Derived.Test.YtlokjiniigfaiaaProg
set_option linter.unusedVariables false
set_option linter.unusedSimpArgs false
namespace Go.Proofs.Ytlokjiniigfaiaa
open Go.RowKit
set_option maxRecDepth 100000

theorem mv_meet' {a b : Ab} (ga : Good a) (gb : Good b) : FnF Try.prog 52 true [encA b, encA a] (.tuple [encA (meetK a b (andS a.k b.k)), .bool (meetI a b)]) := by
  rw [meetK_comm a b, meetI_comm a b, andS_comm a.k b.k]; exact mv_meet gb ga
theorem meet_self {a : Ab} (ga : Good a) : IsMeet a a (andS a.k a.k) a := ⟨ga, fun v => ⟨fun h => ⟨h, h⟩, fun h => h.1⟩, by
  obtain ⟨n, hn, e⟩ := ga.mk'.nat
  rw [e, and_nat n n hn hn, Nat.and_self]⟩
theorem mv_meet_self {a : Ab} (ga : Good a) : FnF Try.prog 52 true [encA a, encA a] (.tuple [encA a, .bool true]) := by
  have h := mv_meet ga ga
  rw [(meet_yes (meet_self ga)).1, (meet_yes (meet_self ga)).2] at h
  exact h
theorem meet_leq1 {a b : Ab} (ga : Good a) (gb : Good b) (h : meetI a b = true) : leqS (meetK a b (andS a.k b.k)) a = true := by
  have m := meet_ok ga gb (andS_mk ga.mk' gb.mk') h
  refine decide_eq_true (leq_incl m.good ga (fun v hv => ((m.mem v).1 hv).1) ?_)
  rw [m.mask, andS_comm]; exact sub_and _ _
theorem meet_leq2 {a b : Ab} (ga : Good a) (gb : Good b) (h : meetI a b = true) : leqS (meetK a b (andS a.k b.k)) b = true := by
  have m := meet_ok ga gb (andS_mk ga.mk' gb.mk') h
  refine decide_eq_true (leq_incl m.good gb (fun v hv => ((m.mem v).1 hv).2) ?_)
  rw [m.mask]; exact sub_and _ _
theorem has_own {a : Ab} (ga : Good a) (n k : Int) : InS a (atS a n) ∧ notS (andS k a.k) a.k = 0 := ⟨at_in ga n, sub_not (sub_and k a.k)⟩
theorem has_meet {a b : Ab} (ga : Good a) (gb : Good b) (h : meetI a b = true) (n k : Int) : (InS (meetK a b (andS a.k b.k)) (atS a n) ∧ notS (andS k a.k) (meetK a b (andS a.k b.k)).k = 0) ↔ (InS b (atS a n) ∧ notS (andS k a.k) b.k = 0) := by
  have m := meet_ok ga gb (andS_mk ga.mk' gb.mk') h
  rw [m.mem, m.mask, notS_iff, notS_iff, sub_and_iff (sub_and k a.k)]
  exact ⟨fun ⟨x, y⟩ => ⟨x.2, y⟩, fun ⟨x, y⟩ => ⟨⟨at_in ga n, x⟩, y⟩⟩
theorem mv_has {a : Ab} {v k : Int} (ga : Good a) (h1 : -4611686018427387904 ≤ v) (h2 : v ≤ 4611686018427387904) : FnF Try.prog 13 true [encA a, .agg [iA v, iA k]] (.bool (decide (InS a v ∧ notS k a.k = 0))) := by
  by_cases q1 : InS a v
  · by_cases q2 : (notS k a.k) = 0
    · exact fn_evF (by kernel_rfl) Try.func13 (by kernel_rfl) 400 [.d, .d, .d, .d, .d, .d, .f true (.bool (decide (InS a v))), .v (.bool true), .d, .d, .d, .d, .v (iA (notS k a.k)), .v (.bool true), .d, .d] (by kernel_rfl) (ob := [FnF Try.prog 43 true [encA a, iA v] (.bool (decide (InS a v))), (.bool (decide (InS a v)) : AV) = (.bool true : AV), (iA (bits .andNot .i64 k a.k) : AV) = (iA (notS k a.k) : AV), (.bool ((notS k a.k) == 0) : AV) = (.bool true : AV), (true : Bool) = (decide (InS a v ∧ notS k a.k = 0))]) (by kernel_rfl) ⟨mv_within (a := a) (v := v) ga (by omega) (by omega), (bT q1), rfl, (eT q2), (by first | (rw [decide_eq_true (show InS a v ∧ notS k a.k = 0 from ⟨by assumption, by assumption⟩)]; done) | (rw [decide_eq_false (fun h : InS a v ∧ notS k a.k = 0 => absurd h.1 (by assumption))]; done) | (rw [decide_eq_false (fun h : InS a v ∧ notS k a.k = 0 => absurd h.2 (by assumption))]; done)), trivial⟩
    · exact fn_evF (by kernel_rfl) Try.func13 (by kernel_rfl) 400 [.d, .d, .d, .d, .d, .d, .f true (.bool (decide (InS a v))), .v (.bool true), .d, .d, .d, .d, .v (iA (notS k a.k)), .v (.bool false), .d, .d] (by kernel_rfl) (ob := [FnF Try.prog 43 true [encA a, iA v] (.bool (decide (InS a v))), (.bool (decide (InS a v)) : AV) = (.bool true : AV), (iA (bits .andNot .i64 k a.k) : AV) = (iA (notS k a.k) : AV), (.bool ((notS k a.k) == 0) : AV) = (.bool false : AV), (false : Bool) = (decide (InS a v ∧ notS k a.k = 0))]) (by kernel_rfl) ⟨mv_within (a := a) (v := v) ga (by omega) (by omega), (bT q1), rfl, (eF q2), (by first | (rw [decide_eq_true (show InS a v ∧ notS k a.k = 0 from ⟨by assumption, by assumption⟩)]; done) | (rw [decide_eq_false (fun h : InS a v ∧ notS k a.k = 0 => absurd h.1 (by assumption))]; done) | (rw [decide_eq_false (fun h : InS a v ∧ notS k a.k = 0 => absurd h.2 (by assumption))]; done)), trivial⟩
  · exact fn_evF (by kernel_rfl) Try.func13 (by kernel_rfl) 400 [.d, .d, .d, .d, .d, .d, .f true (.bool (decide (InS a v))), .v (.bool false), .d, .d, .d, .d, .d, .d, .d, .d] (by kernel_rfl) (ob := [FnF Try.prog 43 true [encA a, iA v] (.bool (decide (InS a v))), (.bool (decide (InS a v)) : AV) = (.bool false : AV), (false : Bool) = (decide (InS a v ∧ notS k a.k = 0))]) (by kernel_rfl) ⟨mv_within (a := a) (v := v) ga (by omega) (by omega), (bF q1), (by first | (rw [decide_eq_true (show InS a v ∧ notS k a.k = 0 from ⟨by assumption, by assumption⟩)]; done) | (rw [decide_eq_false (fun h : InS a v ∧ notS k a.k = 0 => absurd h.1 (by assumption))]; done) | (rw [decide_eq_false (fun h : InS a v ∧ notS k a.k = 0 => absurd h.2 (by assumption))]; done)), trivial⟩

theorem mv_at {a : Ab} {n k : Int} (ga : Good a) (hn : -9223372036854775808 ≤ n ∧ n ≤ 9223372036854775807) : FnF Try.prog 12 true [encA a, iA n, iA k] (.agg [iA (atS a n), iA (andS k a.k)]) := by
  have ka := good_bd ga
  have kt : 0 ≤ n % ((a.hi - a.lo).tdiv a.m + 1) * a.m ∧ n % ((a.hi - a.lo).tdiv a.m + 1) * a.m ≤ a.hi - a.lo ∧ 0 ≤ n % ((a.hi - a.lo).tdiv a.m + 1) ∧ 0 ≤ (a.hi - a.lo).tdiv a.m ∧ (a.hi - a.lo).tdiv a.m ≤ a.hi - a.lo := at_fits ga.h2 (by omega)
  exact fn_evF (by kernel_rfl) Try.func12 (by kernel_rfl) 400 [.d, .d, .d, .d, .d, .d, .d, .d, .d, .v (iA (a.hi - a.lo)), .d, .d, .v (iA ((a.hi - a.lo).tdiv a.m)), .v (iA (((a.hi - a.lo).tdiv a.m) + 1)), .f true (iA (n % (((a.hi - a.lo).tdiv a.m) + 1))), .d, .d, .v (iA ((n % (((a.hi - a.lo).tdiv a.m) + 1)) * a.m)), .v (iA (a.lo + ((n % (((a.hi - a.lo).tdiv a.m) + 1)) * a.m))), .d, .d, .d, .v (iA (andS k a.k)), .d, .d] (by kernel_rfl) (ob := [(iA (IntKind.wrap .i64 (a.hi - a.lo)) : AV) = (iA (a.hi - a.lo) : AV), (iA (IntKind.wrap .i64 ((a.hi - a.lo).tdiv a.m)) : AV) = (iA ((a.hi - a.lo).tdiv a.m) : AV), a.m ≠ 0, (iA (IntKind.wrap .i64 (((a.hi - a.lo).tdiv a.m) + 1)) : AV) = (iA (((a.hi - a.lo).tdiv a.m) + 1) : AV), FnF Try.prog 42 true [iA n, iA (((a.hi - a.lo).tdiv a.m) + 1)] (iA (n % (((a.hi - a.lo).tdiv a.m) + 1))), (iA (IntKind.wrap .i64 ((n % (((a.hi - a.lo).tdiv a.m) + 1)) * a.m)) : AV) = (iA ((n % (((a.hi - a.lo).tdiv a.m) + 1)) * a.m) : AV), (iA (IntKind.wrap .i64 (a.lo + ((n % (((a.hi - a.lo).tdiv a.m) + 1)) * a.m))) : AV) = (iA (a.lo + ((n % (((a.hi - a.lo).tdiv a.m) + 1)) * a.m)) : AV), (iA (bits .and .i64 k a.k) : AV) = (iA (andS k a.k) : AV), (a.lo + ((n % (((a.hi - a.lo).tdiv a.m) + 1)) * a.m) : Int) = atS a n, (andS k a.k : Int) = andS k a.k]) (by kernel_rfl) ⟨iW (w64 (by omega) (by omega)), iW (w64 (by omega) (by omega)), (by omega), iW (w64 (by omega) (by omega)), mv_rmod (by omega) (by omega), iW (w64 (by omega) (by omega)), iW (w64 (by omega) (by omega)), rfl, rfl, rfl, trivial⟩

end Go.Proofs.Ytlokjiniigfaiaa
