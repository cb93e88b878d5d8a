/- Premiums -/
import Derived.Test.YtkijlggnnbdeiaaOdCnt
import Derived.Test.YtkijlggnnbdeiaaRats
import Derived.Test.YtkijlggnnbdeiaaOdOddM
import Derived.Test.YtkijlggnnbdeiaaProg
set_option linter.unusedVariables false
set_option linter.unusedSimpArgs false
namespace Go.Proofs.Ytkijlggnnbdeiaa
open Go.RowKit
set_option maxRecDepth 100000
/-- The premium of a risk: fields of the fraction, and the error. -/
def wrongR (fi k c : Int) : Bool := decide (fi < 0 ∨ 7 < fi ∨ k < 1 ∨ 14 < k ∨ c < 0 ∨ 1000000 < c)
def preN (x : An) (fi k c : Int) : Int := if wrongR fi k c = true then 0 else mulN (oddN x) (oddD x) c 1
def preD (x : An) (fi k c : Int) : Int := if wrongR fi k c = true then 0 else mulD (oddN x) (oddD x) c 1
def preE (x : An) (fi k c : Int) : Int := if wrongR fi k c = true then 1 else mulE (oddN x) (oddD x) c 1
theorem wrongR_f {fi k c : Int} (h : ¬ wrongR fi k c = true) : (0 ≤ fi ∧ fi ≤ 7) ∧ (1 ≤ k ∧ k ≤ 14) ∧ 0 ≤ c ∧ c ≤ 1000000 := by
  have := of_decide_eq_false (Bool.eq_false_iff.2 h)
  omega
theorem pr62_17 {fi : Int} (q1 : 0 ≤ fi) (q2 : fi < 8) : FnF Try.prog 62 true [.int .i64 fi] (.bool true) :=
  fn_e2 Try.func62 400 [.d, .d, .v (.bool true), .d, .d, .v (.bool true), .d, .d] (ob := [(.bool (decide (0 ≤ fi)) : AV) = (.bool true : AV), (.bool (decide (fi < 8)) : AV) = (.bool true : AV), (true : Bool) = true]) ⟨(bT q1), (bT q2), rfl, trivial⟩

theorem pr62_18 {fi : Int} (q1 : 0 ≤ fi) (q2 : ¬ (fi < 8)) : FnF Try.prog 62 true [.int .i64 fi] (.bool false) :=
  fn_e2 Try.func62 400 [.d, .d, .v (.bool true), .d, .d, .v (.bool false), .d, .d] (ob := [(.bool (decide (0 ≤ fi)) : AV) = (.bool true : AV), (.bool (decide (fi < 8)) : AV) = (.bool false : AV), (false : Bool) = false]) ⟨(bT q1), (bF q2), rfl, trivial⟩

theorem pr62_19 {fi : Int} (q1 : ¬ (0 ≤ fi)) : FnF Try.prog 62 true [.int .i64 fi] (.bool false) :=
  fn_e2 Try.func62 400 [.d, .d, .v (.bool false), .d, .d, .d, .d, .d] (ob := [(.bool (decide (0 ≤ fi)) : AV) = (.bool false : AV), (false : Bool) = false]) ⟨(bF q1), rfl, trivial⟩

def oP_pr_wrong (fi : Int) (k : Int) : List Prop := [FnF Try.prog 62 true [iV fi] (.bool true), (.bool (decide (k < 1)) : AV) = (.bool false : AV), (.bool (decide (k > 14)) : AV) = (.bool false : AV)]
theorem pr_wrong {fi k c : Int}  : FnF Try.prog 53 true [.agg [.int .i64 fi, .int .i64 k, .int .i64 c]] (.bool (wrongR fi k c)) := by
  by_cases q1 : 0 ≤ fi
  · by_cases q2 : fi < 8
    · by_cases q3 : k < 1
      · exact fn_e2 Try.func53 400 [.d, .d, .d, .d, .f true (.bool true), .d, .d, .d, .d, .v (.bool true), .d, .d, .d, .d, .d, .d, .d, .d, .d, .d, .d, .d, .d, .d, .d, .d, .d] (ob := [FnF Try.prog 62 true [iV fi] (.bool true), (.bool (decide (k < 1)) : AV) = (.bool true : AV), (true : Bool) = (wrongR fi k c)]) ⟨(pr62_17 q1 q2), (bT q3), (by first | (unfold wrongR; rw [decide_eq_true (by omega)]; done) | (unfold wrongR; rw [decide_eq_false (by omega)]; done)), trivial⟩
      · by_cases q4 : k > 14
        · exact fn_e2 Try.func53 400 [.d, .d, .d, .d, .f true (.bool true), .d, .d, .d, .d, .v (.bool false), .d, .d, .d, .d, .v (.bool true), .d, .d, .d, .d, .d, .d, .d, .d, .d, .d, .d, .d] (ob := [FnF Try.prog 62 true [iV fi] (.bool true), (.bool (decide (k < 1)) : AV) = (.bool false : AV), (.bool (decide (k > 14)) : AV) = (.bool true : AV), (true : Bool) = (wrongR fi k c)]) ⟨(pr62_17 q1 q2), (bF q3), (bT q4), (by first | (unfold wrongR; rw [decide_eq_true (by omega)]; done) | (unfold wrongR; rw [decide_eq_false (by omega)]; done)), trivial⟩
        · by_cases q5 : c < 0
          · exact fn_e2 Try.func53 400 [.d, .d, .d, .d, .f true (.bool true), .d, .d, .d, .d, .v (.bool false), .d, .d, .d, .d, .v (.bool false), .d, .d, .d, .d, .v (.bool true), .d, .d, .d, .d, .d, .d, .d] (ob := ((oP_pr_wrong fi k) ++ [(.bool (decide (c < 0)) : AV) = (.bool true : AV), (true : Bool) = (wrongR fi k c)])) ⟨(pr62_17 q1 q2), (bF q3), (bF q4), (bT q5), (by first | (unfold wrongR; rw [decide_eq_true (by omega)]; done) | (unfold wrongR; rw [decide_eq_false (by omega)]; done)), trivial⟩
          · by_cases q6 : c > 1000000
            · exact fn_e2 Try.func53 400 [.d, .d, .d, .d, .f true (.bool true), .d, .d, .d, .d, .v (.bool false), .d, .d, .d, .d, .v (.bool false), .d, .d, .d, .d, .v (.bool false), .d, .d, .d, .d, .v (.bool true), .d, .d] (ob := ((oP_pr_wrong fi k) ++ [(.bool (decide (c < 0)) : AV) = (.bool false : AV), (.bool (decide (c > 1000000)) : AV) = (.bool true : AV), (true : Bool) = (wrongR fi k c)])) ⟨(pr62_17 q1 q2), (bF q3), (bF q4), (bF q5), (bT q6), (by first | (unfold wrongR; rw [decide_eq_true (by omega)]; done) | (unfold wrongR; rw [decide_eq_false (by omega)]; done)), trivial⟩
            · exact fn_e2 Try.func53 400 [.d, .d, .d, .d, .f true (.bool true), .d, .d, .d, .d, .v (.bool false), .d, .d, .d, .d, .v (.bool false), .d, .d, .d, .d, .v (.bool false), .d, .d, .d, .d, .v (.bool false), .d, .d] (ob := ((oP_pr_wrong fi k) ++ [(.bool (decide (c < 0)) : AV) = (.bool false : AV), (.bool (decide (c > 1000000)) : AV) = (.bool false : AV), (false : Bool) = (wrongR fi k c)])) ⟨(pr62_17 q1 q2), (bF q3), (bF q4), (bF q5), (bF q6), (by first | (unfold wrongR; rw [decide_eq_true (by omega)]; done) | (unfold wrongR; rw [decide_eq_false (by omega)]; done)), trivial⟩
    · exact fn_e2 Try.func53 400 [.d, .d, .d, .d, .f true (.bool false), .d, .d, .d, .d, .d, .d, .d, .d, .d, .d, .d, .d, .d, .d, .d, .d, .d, .d, .d, .d, .d, .d] (ob := [FnF Try.prog 62 true [iV fi] (.bool false), (true : Bool) = (wrongR fi k c)]) ⟨(pr62_18 q1 q2), (by first | (unfold wrongR; rw [decide_eq_true (by omega)]; done) | (unfold wrongR; rw [decide_eq_false (by omega)]; done)), trivial⟩
  · exact fn_e2 Try.func53 400 [.d, .d, .d, .d, .f true (.bool false), .d, .d, .d, .d, .d, .d, .d, .d, .d, .d, .d, .d, .d, .d, .d, .d, .d, .d, .d, .d, .d, .d] (ob := [FnF Try.prog 62 true [iV fi] (.bool false), (true : Bool) = (wrongR fi k c)]) ⟨(pr62_19 q1), (by first | (unfold wrongR; rw [decide_eq_true (by omega)]; done) | (unfold wrongR; rw [decide_eq_false (by omega)]; done)), trivial⟩

theorem pr56_20 {l : List An} {fi k c : Int} (hl : RightP l) (hfi : -9223372036854775808 ≤ fi ∧ fi ≤ 9223372036854775807) (hk : -9223372036854775808 ≤ k ∧ k ≤ 9223372036854775807) (hc : -9223372036854775808 ≤ c ∧ c ≤ 9223372036854775807) (kw : ¬ (wrongR fi k c = true) → (0 ≤ fi ∧ fi ≤ 7) ∧ (1 ≤ k ∧ k ≤ 14) ∧ 0 ≤ c ∧ c ≤ 1000000) (ko : (1 ≤ oddN (cntQ l k) ∧ oddN (cntQ l k) ≤ 1073741825) ∧ 1 ≤ oddD (cntQ l k) ∧ oddD (cntQ l k) ≤ 2147483650) (q1 : ¬ ((wrongR fi k c) = true)) : FnF Try.prog 56 true [.int .i64 c] (.agg [.int .i64 c, .int .i64 1]) :=
  fn_e2 Try.func56 400 [.d, .d, .d, .d] (ob := [(c : Int) = c, (1 : Int) = 1]) ⟨rfl, rfl, trivial⟩

theorem pr_premium {l : List An} {fi k c : Int} (hl : RightP l) (hfi : -9223372036854775808 ≤ fi ∧ fi ≤ 9223372036854775807) (hk : -9223372036854775808 ≤ k ∧ k ≤ 9223372036854775807) (hc : -9223372036854775808 ≤ c ∧ c ≤ 9223372036854775807) : FnF Try.prog 30 true [.list (l.map encQ), .agg [.int .i64 fi, .int .i64 k, .int .i64 c]] (.tuple [.agg [.int .i64 (preN (cntQ l k) fi k c), .int .i64 (preD (cntQ l k) fi k c)], .int .i64 (preE (cntQ l k) fi k c)]) := by
  have kw : ¬ (wrongR fi k c = true) → (0 ≤ fi ∧ fi ≤ 7) ∧ (1 ≤ k ∧ k ≤ 14) ∧ 0 ≤ c ∧ c ≤ 1000000 := wrongR_f
  have ko : (1 ≤ oddN (cntQ l k) ∧ oddN (cntQ l k) ≤ 1073741825) ∧ 1 ≤ oddD (cntQ l k) ∧ oddD (cntQ l k) ≤ 2147483650 := odd_bd (cnt_bd hl _)
  by_cases q1 : (wrongR fi k c) = true
  · refine fn_e2 Try.func30 400 [.d, .d, .d, .d, .f true (.bool (wrongR fi k c)), .v (.bool true), .d, .d, .d] (ob := [FnF Try.prog 53 true [.agg [iV fi, iV k, iV c]] (.bool (wrongR fi k c)), wrongR fi k c = true, (0 : Int) = preN (cntQ l k) fi k c, (0 : Int) = preD (cntQ l k) fi k c, (1 : Int) = preE (cntQ l k) fi k c]) ⟨pr_wrong, (unB (bBT q1)), ?_, ?_, ?_, trivial⟩ <;> (first | (unfold preN; rw [if_pos (by assumption)]; done) | (unfold preD; rw [if_pos (by assumption)]; done) | (unfold preE; rw [if_pos (by assumption)]; done) | (unfold preN; rw [if_neg (by assumption)]; done) | (unfold preD; rw [if_neg (by assumption)]; done) | (unfold preE; rw [if_neg (by assumption)]; done))
  · refine fn_e2 Try.func30 400 [.d, .d, .d, .d, .f true (.bool (wrongR fi k c)), .v (.bool false), .d, .d, .d, .f true (.agg [iV (oddN (cntQ l k)), iV (oddD (cntQ l k))]), .d, .d, .f true (.agg [iV c, iV 1]), .f true (.tuple [.agg [iV (mulN (oddN (cntQ l k)) (oddD (cntQ l k)) c 1), iV (mulD (oddN (cntQ l k)) (oddD (cntQ l k)) c 1)], iV (mulE (oddN (cntQ l k)) (oddD (cntQ l k)) c 1)]), .d, .d, .d, .d] (ob := [FnF Try.prog 53 true [.agg [iV fi, iV k, iV c]] (.bool (wrongR fi k c)), wrongR fi k c = false, FnF Try.prog 55 true [.list (l.map encQ), iV k] (.agg [iV (oddN (cntQ l k)), iV (oddD (cntQ l k))]), FnF Try.prog 56 true [iV c] (.agg [iV c, iV 1]), FnF Try.prog 54 true [.agg [iV (oddN (cntQ l k)), iV (oddD (cntQ l k))], .agg [iV c, iV 1]] (.tuple [.agg [iV (mulN (oddN (cntQ l k)) (oddD (cntQ l k)) c 1), iV (mulD (oddN (cntQ l k)) (oddD (cntQ l k)) c 1)], iV (mulE (oddN (cntQ l k)) (oddD (cntQ l k)) c 1)]), (mulN (oddN (cntQ l k)) (oddD (cntQ l k)) c 1 : Int) = preN (cntQ l k) fi k c, (mulD (oddN (cntQ l k)) (oddD (cntQ l k)) c 1 : Int) = preD (cntQ l k) fi k c, (mulE (oddN (cntQ l k)) (oddD (cntQ l k)) c 1 : Int) = preE (cntQ l k) fi k c]) ⟨pr_wrong, (unB (bBF q1)), od_odd (l := l) (k := k) hl (by omega), (pr56_20 hl hfi hk hc kw ko q1), rt_mul (a := (oddN (cntQ l k))) (b := (oddD (cntQ l k))) (c := c) (d := 1) (by have := wrongR_f (by assumption); exact ⟨⟨by omega, by omega⟩, by omega, by omega⟩) (by have := wrongR_f (by assumption); exact ⟨⟨by omega, by omega⟩, by omega, by omega⟩), ?_, ?_, ?_, trivial⟩ <;> (first | (unfold preN; rw [if_pos (by assumption)]; done) | (unfold preD; rw [if_pos (by assumption)]; done) | (unfold preE; rw [if_pos (by assumption)]; done) | (unfold preN; rw [if_neg (by assumption)]; done) | (unfold preD; rw [if_neg (by assumption)]; done) | (unfold preE; rw [if_neg (by assumption)]; done))

end Go.Proofs.Ytkijlggnnbdeiaa
