/- Has, At and Meet of one set -/
import Derived.Test.YtioiffbnbjalcaaMvMeet
import Derived.Test.YtioiffbnbjalcaaProg
set_option linter.unusedVariables false
set_option linter.unusedSimpArgs false
namespace Go.Proofs.Ytioiffbnbjalcaa
open Go.RowKit
set_option maxRecDepth 100000

theorem mv_meet' {a b : Ab} (ga : Good a) (gb : Good b) : FnF Try.prog 68 true [encA b, encA a] (.tuple [encA (meetK a b (andS a.k b.k)), .bool (meetI a b)]) := by
  rw [meetK_comm a b, meetI_comm a b, andS_comm a.k b.k]; exact mv_meet gb ga
theorem meet_self {a : Ab} (ga : Good a) : IsMeet a a (andS a.k a.k) a := ⟨ga, fun v => ⟨fun h => ⟨h, h⟩, fun h => h.1⟩, by
  obtain ⟨n, hn, e⟩ := ga.mk'.nat
  rw [e, and_nat n n hn hn, Nat.and_self]⟩
theorem mv_meet_self {a : Ab} (ga : Good a) : FnF Try.prog 68 true [encA a, encA a] (.tuple [encA a, .bool true]) := by
  have h := mv_meet ga ga
  rw [(meet_yes (meet_self ga)).1, (meet_yes (meet_self ga)).2] at h
  exact h
theorem meet_leq1 {a b : Ab} (ga : Good a) (gb : Good b) (h : meetI a b = true) : leqS (meetK a b (andS a.k b.k)) a = true := by
  have m := meet_ok ga gb (andS_mk ga.mk' gb.mk') h
  refine decide_eq_true (leq_incl m.good ga (fun v hv => ((m.mem v).1 hv).1) ?_)
  rw [m.mask, andS_comm]; exact sub_and _ _
theorem meet_leq2 {a b : Ab} (ga : Good a) (gb : Good b) (h : meetI a b = true) : leqS (meetK a b (andS a.k b.k)) b = true := by
  have m := meet_ok ga gb (andS_mk ga.mk' gb.mk') h
  refine decide_eq_true (leq_incl m.good gb (fun v hv => ((m.mem v).1 hv).2) ?_)
  rw [m.mask]; exact sub_and _ _
theorem has_own {a : Ab} (ga : Good a) (n k : Int) : InS a (atS a n) ∧ notS (andS k a.k) a.k = 0 := ⟨at_in ga n, sub_not (sub_and k a.k)⟩
theorem has_meet {a b : Ab} (ga : Good a) (gb : Good b) (h : meetI a b = true) (n k : Int) : (InS (meetK a b (andS a.k b.k)) (atS a n) ∧ notS (andS k a.k) (meetK a b (andS a.k b.k)).k = 0) ↔ (InS b (atS a n) ∧ notS (andS k a.k) b.k = 0) := by
  have m := meet_ok ga gb (andS_mk ga.mk' gb.mk') h
  rw [m.mem, m.mask, notS_iff, notS_iff, sub_and_iff (sub_and k a.k)]
  exact ⟨fun ⟨x, y⟩ => ⟨x.2, y⟩, fun ⟨x, y⟩ => ⟨⟨at_in ga n, x⟩, y⟩⟩
theorem mv_has {a : Ab} {v k : Int} (ga : Good a) (h1 : -4611686018427387904 ≤ v) (h2 : v ≤ 4611686018427387904) : FnF Try.prog 18 true [encA a, .agg [iA v, iA k]] (.bool (decide (InS a v ∧ notS k a.k = 0))) := by
  by_cases q1 : InS a v
  · by_cases q2 : (notS k a.k) = 0
    · exact fn_e2 Try.func18 400 [.d, .d, .d, .d, .d, .d, .f true (.bool (decide (InS a v))), .v (.bool true), .d, .d, .d, .d, .v (iV (notS k a.k)), .v (.bool true), .d, .d] (ob := [FnF Try.prog 36 true [.agg [iV a.lo, iV a.hi, iV a.m, iV a.r, iV a.k], iV v] (.bool (decide (InS a v))), _, (iV (bits .andNot .i64 k a.k) : AV) = (iV (notS k a.k) : AV), _, (true : Bool) = (decide (InS a v ∧ notS k a.k = 0))]) ⟨mv_within (a := a) (v := v) ga (by omega) (by omega), (bT q1), rfl, (eT q2), (by first | (rw [decide_eq_true (show InS a v ∧ notS k a.k = 0 from ⟨by assumption, by assumption⟩)]; done) | (rw [decide_eq_false (fun h : InS a v ∧ notS k a.k = 0 => absurd h.1 (by assumption))]; done) | (rw [decide_eq_false (fun h : InS a v ∧ notS k a.k = 0 => absurd h.2 (by assumption))]; done)), trivial⟩
    · exact fn_e2 Try.func18 400 [.d, .d, .d, .d, .d, .d, .f true (.bool (decide (InS a v))), .v (.bool true), .d, .d, .d, .d, .v (iV (notS k a.k)), .v (.bool false), .d, .d] (ob := [FnF Try.prog 36 true [.agg [iV a.lo, iV a.hi, iV a.m, iV a.r, iV a.k], iV v] (.bool (decide (InS a v))), _, (iV (bits .andNot .i64 k a.k) : AV) = (iV (notS k a.k) : AV), _, (false : Bool) = (decide (InS a v ∧ notS k a.k = 0))]) ⟨mv_within (a := a) (v := v) ga (by omega) (by omega), (bT q1), rfl, (eF q2), (by first | (rw [decide_eq_true (show InS a v ∧ notS k a.k = 0 from ⟨by assumption, by assumption⟩)]; done) | (rw [decide_eq_false (fun h : InS a v ∧ notS k a.k = 0 => absurd h.1 (by assumption))]; done) | (rw [decide_eq_false (fun h : InS a v ∧ notS k a.k = 0 => absurd h.2 (by assumption))]; done)), trivial⟩
  · exact fn_e2 Try.func18 400 [.d, .d, .d, .d, .d, .d, .f true (.bool (decide (InS a v))), .v (.bool false), .d, .d, .d, .d, .d, .d, .d, .d] (ob := [FnF Try.prog 36 true [.agg [iV a.lo, iV a.hi, iV a.m, iV a.r, iV a.k], iV v] (.bool (decide (InS a v))), _, (false : Bool) = (decide (InS a v ∧ notS k a.k = 0))]) ⟨mv_within (a := a) (v := v) ga (by omega) (by omega), (bF q1), (by first | (rw [decide_eq_true (show InS a v ∧ notS k a.k = 0 from ⟨by assumption, by assumption⟩)]; done) | (rw [decide_eq_false (fun h : InS a v ∧ notS k a.k = 0 => absurd h.1 (by assumption))]; done) | (rw [decide_eq_false (fun h : InS a v ∧ notS k a.k = 0 => absurd h.2 (by assumption))]; done)), trivial⟩

theorem mv_at {a : Ab} {n k : Int} (ga : Good a) (hn : -9223372036854775808 ≤ n ∧ n ≤ 9223372036854775807) : FnF Try.prog 15 true [encA a, iA n, iA k] (.agg [iA (atS a n), iA (andS k a.k)]) := by
  have ka := good_bd ga
  have kt : 0 ≤ n % ((a.hi - a.lo).tdiv a.m + 1) * a.m ∧ n % ((a.hi - a.lo).tdiv a.m + 1) * a.m ≤ a.hi - a.lo ∧ 0 ≤ n % ((a.hi - a.lo).tdiv a.m + 1) ∧ 0 ≤ (a.hi - a.lo).tdiv a.m ∧ (a.hi - a.lo).tdiv a.m ≤ a.hi - a.lo := at_fits ga.h2 (by omega)
  exact fn_e2 Try.func15 400 [.d, .d, .d, .d, .d, .d, .d, .d, .d, .v (iV (a.hi - a.lo)), .d, .d, .v (iV ((a.hi - a.lo).tdiv a.m)), .v (iV (((a.hi - a.lo).tdiv a.m) + 1)), .f true (iV (n % (((a.hi - a.lo).tdiv a.m) + 1))), .d, .d, .v (iV ((n % (((a.hi - a.lo).tdiv a.m) + 1)) * a.m)), .v (iV (a.lo + ((n % (((a.hi - a.lo).tdiv a.m) + 1)) * a.m))), .d, .d, .d, .v (iV (andS k a.k)), .d, .d] (ob := [(iV (IntKind.wrap .i64 (a.hi - a.lo)) : AV) = (iV (a.hi - a.lo) : AV), (iV (IntKind.wrap .i64 ((a.hi - a.lo).tdiv a.m)) : AV) = (iV ((a.hi - a.lo).tdiv a.m) : AV), a.m ≠ 0, (iV (IntKind.wrap .i64 (((a.hi - a.lo).tdiv a.m) + 1)) : AV) = (iV (((a.hi - a.lo).tdiv a.m) + 1) : AV), FnF Try.prog 32 true [iV n, iV (((a.hi - a.lo).tdiv a.m) + 1)] (iV (n % (((a.hi - a.lo).tdiv a.m) + 1))), (iV (IntKind.wrap .i64 ((n % (((a.hi - a.lo).tdiv a.m) + 1)) * a.m)) : AV) = (iV ((n % (((a.hi - a.lo).tdiv a.m) + 1)) * a.m) : AV), (iV (IntKind.wrap .i64 (a.lo + ((n % (((a.hi - a.lo).tdiv a.m) + 1)) * a.m))) : AV) = (iV (a.lo + ((n % (((a.hi - a.lo).tdiv a.m) + 1)) * a.m)) : AV), (iV (bits .and .i64 k a.k) : AV) = (iV (andS k a.k) : AV), (a.lo + ((n % (((a.hi - a.lo).tdiv a.m) + 1)) * a.m) : Int) = atS a n, (andS k a.k : Int) = andS k a.k]) ⟨iW (w64 (by omega) (by omega)), iW (w64 (by omega) (by omega)), (by omega), iW (w64 (by omega) (by omega)), mv_rmod (by omega) (by omega), iW (w64 (by omega) (by omega)), iW (w64 (by omega) (by omega)), rfl, rfl, rfl, trivial⟩

end Go.Proofs.Ytioiffbnbjalcaa
