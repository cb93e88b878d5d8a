/- Contracts of package odds -/
import Derived.Test.YtlhmionefjopiaaOdRat
import Derived.Test.YtlhmionefjopiaaProg
set_option linter.unusedVariables false
set_option linter.unusedSimpArgs false
namespace Go.Proofs.Ytlhmionefjopiaa
open Go.RowKit
set_option maxRecDepth 100000

structure An where
  kind : Int
  right : Int
  wrong : Int
def q0 : An := ⟨0, 0, 0⟩
def encQ (x : An) : AV := .agg [.int .i64 x.kind, .int .i64 x.right, .int .i64 x.wrong]
/-- The n-th is right, and behind the one before it. -/
def OkAt (l : List An) (n : Nat) : Prop := 1 ≤ (l.getD n q0).kind ∧ (l.getD n q0).kind ≤ 14 ∧ 0 ≤ (l.getD n q0).right ∧ 0 ≤ (l.getD n q0).wrong ∧ (l.getD n q0).right ≤ 1073741824 ∧ (l.getD n q0).wrong ≤ 1073741824 ∧ (n = 0 ∨ (l.getD (n - 1) q0).kind < (l.getD n q0).kind)
instance (l : List An) (n : Nat) : Decidable (OkAt l n) := inferInstanceAs (Decidable (_ ∧ _))
def RightP (l : List An) : Prop := ∀ n, n < l.length → OkAt l n
instance (l : List An) : Decidable (RightP l) := inferInstanceAs (Decidable (∀ n, n < l.length → OkAt l n))
def rightE (l : List An) : Int := if RightP l then 0 else 1
def sumQ (x y : An) : An := ⟨x.kind, x.right + y.right, x.wrong + y.wrong⟩
def mergeF : List An → List An → List An
  | [], q => q
  | p, [] => p
  | x :: p, y :: q => if x.kind < y.kind then x :: mergeF p (y :: q) else if y.kind < x.kind then y :: mergeF (x :: p) q else sumQ x y :: mergeF p q
  termination_by p q => p.length + q.length
theorem od_right {l : List An} (hl : l.length < 1000000) : FnF Try.prog 11 true [.list (l.map encQ)] (.int .i64 (rightE l)) := by
  refine fn_walkF Try.func11 (by kernel_rfl) (by kernel_rfl) (by kernel_rfl) (st := (stX (.tuple []) 52 [(0, .list (l.map encQ))] [])) rfl ?_
  refine Ok.seqP [] (by kernel_rfl) ?_
  refine Ok.evf (by kernel_rfl) 400 [.d] [0, 2, 5, 6, 7] 0 (st' := (stX .any 52 [(0, .list (l.map encQ)), (2, .int .i64 0), (5, .tuple []), (6, .tuple []), (7, .tuple [])] [])) (e := .normal) (ob := []) (by kernel_rfl) trivial ?_
  refine seq_n ?_
  refine Ok.seqP [true] (by kernel_rfl) ?_
  refine Ok.seqP [true, false] (by kernel_rfl) ?_
  refine Ok.evf (by kernel_rfl) 400 [.d, .v (.int .i64 (l.length : Int)), .d] [0, 5, 6, 7] 0 (st' := (stX .any 52 [(0, .list (l.map encQ)), (5, .list (l.map encQ)), (6, .int .i64 (l.length : Int)), (7, .int .i64 0)] [])) (e := .normal) (ob := [(.int .i64 (((l.map encQ).length : Nat) : Int) : AV) = (.int .i64 (l.length : Int) : AV)]) (by kernel_rfl) ⟨len_map, trivial⟩ ?_
  refine seq_n ?_
  refine Ok.blockP [true, false, true] 0 (by kernel_rfl) ?_
  refine Ok.loopB [true, false, true, false] (by kernel_rfl) (fun m_ s_ => ∃ (i : Nat), (i ≤ l.length) ∧ (∀ n, n < i → OkAt l n) ∧ m_ = l.length - i ∧ s_ = (stX .any 52 [(0, .list (l.map encQ)), (5, .list (l.map encQ)), (6, .int .i64 (l.length : Int)), (7, .int .i64 ((i : Nat) : Int))] [])) (l.length - 0) (⟨0, (by omega), fun n hn => by omega, rfl, rfl⟩) ?_
  rintro m_ s_ ⟨i, hi, hp, rfl, rfl⟩
  refine Ok.seqP [true, false, true, false, false] (by kernel_rfl) ?_
  by_cases q1 : ((i : Nat) : Int) < (l.length : Int)
  · refine Ok.evf (by kernel_rfl) 400 [.v (.bool true)] [0, 2, 5, 6, 7, 8] 0 (st' := (stX .any 52 [(0, .list (l.map encQ)), (5, .list (l.map encQ)), (6, .int .i64 (l.length : Int)), (7, .int .i64 ((i : Nat) : Int)), (8, .bool true)] [])) (e := .normal) (ob := [(.bool (decide (((i : Nat) : Int) < (l.length : Int))) : AV) = (.bool true : AV)]) (by kernel_rfl) ⟨(bT q1), trivial⟩ ?_
    refine seq_n ?_
    refine Ok.seqP [true, false, true, false, false, true] (by kernel_rfl) ?_
    refine Ok.evf (by kernel_rfl) 400 [.d] [0, 2, 5, 6, 7] 0 (st' := (stX .any 52 [(0, .list (l.map encQ)), (5, .list (l.map encQ)), (6, .int .i64 (l.length : Int)), (7, .int .i64 ((i : Nat) : Int))] [])) (e := .normal) (ob := []) (by kernel_rfl) trivial ?_
    refine seq_n ?_
    refine Ok.seqP [true, false, true, false, false, true, true] (by kernel_rfl) ?_
    refine Ok.blockP [true, false, true, false, false, true, true, false] 1 (by kernel_rfl) ?_
    refine Ok.seqP [true, false, true, false, false, true, true, false, false] (by kernel_rfl) ?_
    refine Ok.evf (by kernel_rfl) 400 [.d, .e (encQ (l.getD i q0)), .d, .d, .d, .d] [0, 2, 3, 4, 5, 6, 7] 1 (st' := (stX .any 52 [(0, .list (l.map encQ)), (3, .int .i64 ((i : Nat) : Int)), (4, .ptr 0 0), (5, .list (l.map encQ)), (6, .int .i64 (l.length : Int)), (7, .int .i64 ((i : Nat) : Int))] [.cells [.int .i64 ((l.getD i q0).kind), .int .i64 ((l.getD i q0).right), .int .i64 ((l.getD i q0).wrong)]])) (e := .normal) (ob := [0 ≤ ((i : Nat) : Int),
        (l.map encQ)[((i : Nat) : Int).toNat]? = some (encQ (l.getD i q0))]) (by kernel_rfl) ⟨(by omega), elemN (by omega) (by omega), trivial⟩ ?_
    refine seq_n ?_
    refine Ok.seqP [true, false, true, false, false, true, true, false, false, true] (by kernel_rfl) ?_
    by_cases q2 : ((l.getD i q0).kind) < 1
    · refine Ok.evf (by kernel_rfl) 400 [.d, .d, .v (.bool true), .d, .d, .d, .d, .d, .d, .d, .d, .d, .d, .d, .d, .d, .d, .d, .d, .d, .d, .d, .d, .d, .d, .d, .d, .d, .d, .d, .d, .d, .d, .d, .d, .d, .d, .d, .d] [0, 2, 5, 6, 7, 50] 1 (st' := (stX .any 52 [(0, .list (l.map encQ)), (5, .list (l.map encQ)), (6, .int .i64 (l.length : Int)), (7, .int .i64 ((i : Nat) : Int)), (50, .bool true)] [.cells [.int .i64 ((l.getD i q0).kind), .int .i64 ((l.getD i q0).right), .int .i64 ((l.getD i q0).wrong)]])) (e := .normal) (ob := [(.bool (decide (((l.getD i q0).kind) < 1)) : AV) = (.bool true : AV)]) (by kernel_rfl) ⟨(bT q2), trivial⟩ ?_
      refine seq_n ?_
      refine Ok.evf (by kernel_rfl) 400 [.d, .d] [2] 1 (st' := (stX .any 52 [(2, .int .i64 1)] [.cells [.int .i64 ((l.getD i q0).kind), .int .i64 ((l.getD i q0).right), .int .i64 ((l.getD i q0).wrong)]])) (e := .ret) (ob := []) (by kernel_rfl) trivial ?_
      refine blk_r ?_
      refine seq_r ?_
      refine loopg_r ?_
      refine blk_r ?_
      refine seq_r ?_
      exact ⟨.inr rfl, finF_of (ob := [(1 : Int) = rightE l]) (by kernel_rfl) ⟨(by first | (unfold rightE; rw [if_pos (show RightP l from fun n hn => hp n (by omega))]) | (unfold rightE; rw [if_neg (fun h : RightP l => by have h := h i (by omega); unfold OkAt at h; omega)])), trivial⟩⟩
    · by_cases q3 : ((l.getD i q0).kind) > 14
      · refine Ok.evf (by kernel_rfl) 400 [.d, .d, .v (.bool false), .d, .d, .d, .v (.bool true), .d, .d, .d, .d, .d, .d, .d, .d, .d, .d, .d, .d, .d, .d, .d, .d, .d, .d, .d, .d, .d, .d, .d, .d, .d, .d, .d, .d, .d, .d, .d, .d] [0, 2, 5, 6, 7, 50] 1 (st' := (stX .any 52 [(0, .list (l.map encQ)), (5, .list (l.map encQ)), (6, .int .i64 (l.length : Int)), (7, .int .i64 ((i : Nat) : Int)), (50, .bool true)] [.cells [.int .i64 ((l.getD i q0).kind), .int .i64 ((l.getD i q0).right), .int .i64 ((l.getD i q0).wrong)]])) (e := .normal) (ob := [(.bool (decide (((l.getD i q0).kind) < 1)) : AV) = (.bool false : AV),
        (.bool (decide (((l.getD i q0).kind) > 14)) : AV) = (.bool true : AV)]) (by kernel_rfl) ⟨(bF q2), (bT q3), trivial⟩ ?_
        refine seq_n ?_
        refine Ok.evf (by kernel_rfl) 400 [.d, .d] [2] 1 (st' := (stX .any 52 [(2, .int .i64 1)] [.cells [.int .i64 ((l.getD i q0).kind), .int .i64 ((l.getD i q0).right), .int .i64 ((l.getD i q0).wrong)]])) (e := .ret) (ob := []) (by kernel_rfl) trivial ?_
        refine blk_r ?_
        refine seq_r ?_
        refine loopg_r ?_
        refine blk_r ?_
        refine seq_r ?_
        exact ⟨.inr rfl, finF_of (ob := [(1 : Int) = rightE l]) (by kernel_rfl) ⟨(by first | (unfold rightE; rw [if_pos (show RightP l from fun n hn => hp n (by omega))]) | (unfold rightE; rw [if_neg (fun h : RightP l => by have h := h i (by omega); unfold OkAt at h; omega)])), trivial⟩⟩
      · by_cases q4 : (min ((l.getD i q0).right) ((l.getD i q0).wrong)) < 0
        · refine Ok.evf (by kernel_rfl) 400 [.d, .d, .v (.bool false), .d, .d, .d, .v (.bool false), .d, .d, .d, .d, .d, .d, .d, .v (.bool true), .d, .d, .d, .d, .d, .d, .d, .d, .d, .d, .d, .d, .d, .d, .d, .d, .d, .d, .d, .d, .d, .d, .d, .d] [0, 2, 5, 6, 7, 50] 1 (st' := (stX .any 52 [(0, .list (l.map encQ)), (5, .list (l.map encQ)), (6, .int .i64 (l.length : Int)), (7, .int .i64 ((i : Nat) : Int)), (50, .bool true)] [.cells [.int .i64 ((l.getD i q0).kind), .int .i64 ((l.getD i q0).right), .int .i64 ((l.getD i q0).wrong)]])) (e := .normal) (ob := [(.bool (decide (((l.getD i q0).kind) < 1)) : AV) = (.bool false : AV),
        (.bool (decide (((l.getD i q0).kind) > 14)) : AV) = (.bool false : AV),
        (.bool (decide ((min ((l.getD i q0).right) ((l.getD i q0).wrong)) < 0)) : AV) = (.bool true : AV)]) (by kernel_rfl) ⟨(bF q2), (bF q3), (bT q4), trivial⟩ ?_
          refine seq_n ?_
          refine Ok.evf (by kernel_rfl) 400 [.d, .d] [2] 1 (st' := (stX .any 52 [(2, .int .i64 1)] [.cells [.int .i64 ((l.getD i q0).kind), .int .i64 ((l.getD i q0).right), .int .i64 ((l.getD i q0).wrong)]])) (e := .ret) (ob := []) (by kernel_rfl) trivial ?_
          refine blk_r ?_
          refine seq_r ?_
          refine loopg_r ?_
          refine blk_r ?_
          refine seq_r ?_
          exact ⟨.inr rfl, finF_of (ob := [(1 : Int) = rightE l]) (by kernel_rfl) ⟨(by first | (unfold rightE; rw [if_pos (show RightP l from fun n hn => hp n (by omega))]) | (unfold rightE; rw [if_neg (fun h : RightP l => by have h := h i (by omega); unfold OkAt at h; omega)])), trivial⟩⟩
        · by_cases q5 : (max ((l.getD i q0).right) ((l.getD i q0).wrong)) > 1073741824
          · refine Ok.evf (by kernel_rfl) 400 [.d, .d, .v (.bool false), .d, .d, .d, .v (.bool false), .d, .d, .d, .d, .d, .d, .d, .v (.bool false), .d, .d, .d, .d, .d, .d, .d, .v (.bool true), .d, .d, .d, .d, .d, .d, .d, .d, .d, .d, .d, .d, .d, .d, .d, .d] [0, 2, 5, 6, 7, 50] 1 (st' := (stX .any 52 [(0, .list (l.map encQ)), (5, .list (l.map encQ)), (6, .int .i64 (l.length : Int)), (7, .int .i64 ((i : Nat) : Int)), (50, .bool true)] [.cells [.int .i64 ((l.getD i q0).kind), .int .i64 ((l.getD i q0).right), .int .i64 ((l.getD i q0).wrong)]])) (e := .normal) (ob := [(.bool (decide (((l.getD i q0).kind) < 1)) : AV) = (.bool false : AV),
        (.bool (decide (((l.getD i q0).kind) > 14)) : AV) = (.bool false : AV),
        (.bool (decide ((min ((l.getD i q0).right) ((l.getD i q0).wrong)) < 0)) : AV) = (.bool false : AV),
        (.bool (decide ((max ((l.getD i q0).right) ((l.getD i q0).wrong)) > 1073741824)) : AV) = (.bool true : AV)]) (by kernel_rfl) ⟨(bF q2), (bF q3), (bF q4), (bT q5), trivial⟩ ?_
            refine seq_n ?_
            refine Ok.evf (by kernel_rfl) 400 [.d, .d] [2] 1 (st' := (stX .any 52 [(2, .int .i64 1)] [.cells [.int .i64 ((l.getD i q0).kind), .int .i64 ((l.getD i q0).right), .int .i64 ((l.getD i q0).wrong)]])) (e := .ret) (ob := []) (by kernel_rfl) trivial ?_
            refine blk_r ?_
            refine seq_r ?_
            refine loopg_r ?_
            refine blk_r ?_
            refine seq_r ?_
            exact ⟨.inr rfl, finF_of (ob := [(1 : Int) = rightE l]) (by kernel_rfl) ⟨(by first | (unfold rightE; rw [if_pos (show RightP l from fun n hn => hp n (by omega))]) | (unfold rightE; rw [if_neg (fun h : RightP l => by have h := h i (by omega); unfold OkAt at h; omega)])), trivial⟩⟩
          · by_cases q6 : ((i : Nat) : Int) > 0
            · by_cases q7 : ((l.getD (i - 1) q0).kind) ≥ ((l.getD i q0).kind)
              · refine Ok.evf (by kernel_rfl) 400 [.d, .d, .v (.bool false), .d, .d, .d, .v (.bool false), .d, .d, .d, .d, .d, .d, .d, .v (.bool false), .d, .d, .d, .d, .d, .d, .d, .v (.bool false), .d, .d, .d, .v (.bool true), .d, .d, .d, .v (.int .i64 (((i : Nat) : Int) - 1)), .e (encQ (l.getD (i - 1) q0)), .d, .d, .d, .d, .v (.bool true), .d, .d] [0, 2, 5, 6, 7, 50] 1 (st' := (stX .any 52 [(0, .list (l.map encQ)), (5, .list (l.map encQ)), (6, .int .i64 (l.length : Int)), (7, .int .i64 ((i : Nat) : Int)), (50, .bool true)] [.cells [.int .i64 ((l.getD i q0).kind), .int .i64 ((l.getD i q0).right), .int .i64 ((l.getD i q0).wrong)]])) (e := .normal) (ob := [(.bool (decide (((l.getD i q0).kind) < 1)) : AV) = (.bool false : AV),
        (.bool (decide (((l.getD i q0).kind) > 14)) : AV) = (.bool false : AV),
        (.bool (decide ((min ((l.getD i q0).right) ((l.getD i q0).wrong)) < 0)) : AV) = (.bool false : AV),
        (.bool (decide ((max ((l.getD i q0).right) ((l.getD i q0).wrong)) > 1073741824)) : AV) = (.bool false : AV),
        (.bool (decide (((i : Nat) : Int) > 0)) : AV) = (.bool true : AV),
        (.int .i64 (IntKind.wrap .i64 (((i : Nat) : Int) - 1)) : AV) = (.int .i64 (((i : Nat) : Int) - 1) : AV),
        0 ≤ ((i : Nat) : Int) - 1,
        (l.map encQ)[(((i : Nat) : Int) - 1).toNat]? = some (encQ (l.getD (i - 1) q0)),
        (.bool (decide (((l.getD (i - 1) q0).kind) ≥ ((l.getD i q0).kind))) : AV) = (.bool true : AV)]) (by kernel_rfl) ⟨(bF q2), (bF q3), (bF q4), (bF q5), (bT q6), iW (w64 (by omega) (by omega)), (by omega), elemN (by omega) (by omega), (bT q7), trivial⟩ ?_
                refine seq_n ?_
                refine Ok.evf (by kernel_rfl) 400 [.d, .d] [2] 1 (st' := (stX .any 52 [(2, .int .i64 1)] [.cells [.int .i64 ((l.getD i q0).kind), .int .i64 ((l.getD i q0).right), .int .i64 ((l.getD i q0).wrong)]])) (e := .ret) (ob := []) (by kernel_rfl) trivial ?_
                refine blk_r ?_
                refine seq_r ?_
                refine loopg_r ?_
                refine blk_r ?_
                refine seq_r ?_
                exact ⟨.inr rfl, finF_of (ob := [(1 : Int) = rightE l]) (by kernel_rfl) ⟨(by first | (unfold rightE; rw [if_pos (show RightP l from fun n hn => hp n (by omega))]) | (unfold rightE; rw [if_neg (fun h : RightP l => by have h := h i (by omega); unfold OkAt at h; omega)])), trivial⟩⟩
              · refine Ok.evf (by kernel_rfl) 400 [.d, .d, .v (.bool false), .d, .d, .d, .v (.bool false), .d, .d, .d, .d, .d, .d, .d, .v (.bool false), .d, .d, .d, .d, .d, .d, .d, .v (.bool false), .d, .d, .d, .v (.bool true), .d, .d, .d, .v (.int .i64 (((i : Nat) : Int) - 1)), .e (encQ (l.getD (i - 1) q0)), .d, .d, .d, .d, .v (.bool false), .d, .d] [0, 2, 5, 6, 7, 50] 1 (st' := (stX .any 52 [(0, .list (l.map encQ)), (5, .list (l.map encQ)), (6, .int .i64 (l.length : Int)), (7, .int .i64 ((i : Nat) : Int)), (50, .bool false)] [.cells [.int .i64 ((l.getD i q0).kind), .int .i64 ((l.getD i q0).right), .int .i64 ((l.getD i q0).wrong)]])) (e := .normal) (ob := [(.bool (decide (((l.getD i q0).kind) < 1)) : AV) = (.bool false : AV),
        (.bool (decide (((l.getD i q0).kind) > 14)) : AV) = (.bool false : AV),
        (.bool (decide ((min ((l.getD i q0).right) ((l.getD i q0).wrong)) < 0)) : AV) = (.bool false : AV),
        (.bool (decide ((max ((l.getD i q0).right) ((l.getD i q0).wrong)) > 1073741824)) : AV) = (.bool false : AV),
        (.bool (decide (((i : Nat) : Int) > 0)) : AV) = (.bool true : AV),
        (.int .i64 (IntKind.wrap .i64 (((i : Nat) : Int) - 1)) : AV) = (.int .i64 (((i : Nat) : Int) - 1) : AV),
        0 ≤ ((i : Nat) : Int) - 1,
        (l.map encQ)[(((i : Nat) : Int) - 1).toNat]? = some (encQ (l.getD (i - 1) q0)),
        (.bool (decide (((l.getD (i - 1) q0).kind) ≥ ((l.getD i q0).kind))) : AV) = (.bool false : AV)]) (by kernel_rfl) ⟨(bF q2), (bF q3), (bF q4), (bF q5), (bT q6), iW (w64 (by omega) (by omega)), (by omega), elemN (by omega) (by omega), (bF q7), trivial⟩ ?_
                refine seq_n ?_
                refine Ok.evf (by kernel_rfl) 400 [.d] [0, 2, 5, 6, 7] 1 (st' := (stX .any 52 [(0, .list (l.map encQ)), (5, .list (l.map encQ)), (6, .int .i64 (l.length : Int)), (7, .int .i64 ((i : Nat) : Int))] [.cells [.int .i64 ((l.getD i q0).kind), .int .i64 ((l.getD i q0).right), .int .i64 ((l.getD i q0).wrong)]])) (e := .normal) (ob := []) (by kernel_rfl) trivial ?_
                refine blk_n ?_
                refine seq_n ?_
                refine Ok.evf (by kernel_rfl) 400 [.v (.int .i64 (((i : Nat) : Int) + 1)), .d] [0, 5, 6, 7] 1 (st' := (stX .any 52 [(0, .list (l.map encQ)), (5, .list (l.map encQ)), (6, .int .i64 (l.length : Int)), (7, .int .i64 (((i : Nat) : Int) + 1))] [.cells [.int .i64 ((l.getD i q0).kind), .int .i64 ((l.getD i q0).right), .int .i64 ((l.getD i q0).wrong)]])) (e := .normal) (ob := [(.int .i64 (IntKind.wrap .i64 (((i : Nat) : Int) + 1)) : AV) = (.int .i64 (((i : Nat) : Int) + 1) : AV)]) (by kernel_rfl) ⟨iW (w64 (by omega) (by omega)), trivial⟩ ?_
                exact loop_g [0, 5, 6, 7] 0 (l.length - (i + 1)) (by omega) rfl (s' := (stX .any 52 [(0, .list (l.map encQ)), (5, .list (l.map encQ)), (6, .int .i64 (l.length : Int)), (7, .int .i64 (((i : Nat) : Int) + 1))] [])) (ob := []) (by kernel_rfl) trivial (⟨(i + 1), (by omega), upto_step hp (by unfold OkAt; omega), rfl, rfl⟩)
            · refine Ok.evf (by kernel_rfl) 400 [.d, .d, .v (.bool false), .d, .d, .d, .v (.bool false), .d, .d, .d, .d, .d, .d, .d, .v (.bool false), .d, .d, .d, .d, .d, .d, .d, .v (.bool false), .d, .d, .d, .v (.bool false), .d, .d, .d, .d, .d, .d, .d, .d, .d, .d, .d, .d] [0, 2, 5, 6, 7, 50] 1 (st' := (stX .any 52 [(0, .list (l.map encQ)), (5, .list (l.map encQ)), (6, .int .i64 (l.length : Int)), (7, .int .i64 ((i : Nat) : Int)), (50, .bool false)] [.cells [.int .i64 ((l.getD i q0).kind), .int .i64 ((l.getD i q0).right), .int .i64 ((l.getD i q0).wrong)]])) (e := .normal) (ob := [(.bool (decide (((l.getD i q0).kind) < 1)) : AV) = (.bool false : AV),
        (.bool (decide (((l.getD i q0).kind) > 14)) : AV) = (.bool false : AV),
        (.bool (decide ((min ((l.getD i q0).right) ((l.getD i q0).wrong)) < 0)) : AV) = (.bool false : AV),
        (.bool (decide ((max ((l.getD i q0).right) ((l.getD i q0).wrong)) > 1073741824)) : AV) = (.bool false : AV),
        (.bool (decide (((i : Nat) : Int) > 0)) : AV) = (.bool false : AV)]) (by kernel_rfl) ⟨(bF q2), (bF q3), (bF q4), (bF q5), (bF q6), trivial⟩ ?_
              refine seq_n ?_
              refine Ok.evf (by kernel_rfl) 400 [.d] [0, 2, 5, 6, 7] 1 (st' := (stX .any 52 [(0, .list (l.map encQ)), (5, .list (l.map encQ)), (6, .int .i64 (l.length : Int)), (7, .int .i64 ((i : Nat) : Int))] [.cells [.int .i64 ((l.getD i q0).kind), .int .i64 ((l.getD i q0).right), .int .i64 ((l.getD i q0).wrong)]])) (e := .normal) (ob := []) (by kernel_rfl) trivial ?_
              refine blk_n ?_
              refine seq_n ?_
              refine Ok.evf (by kernel_rfl) 400 [.v (.int .i64 (((i : Nat) : Int) + 1)), .d] [0, 5, 6, 7] 1 (st' := (stX .any 52 [(0, .list (l.map encQ)), (5, .list (l.map encQ)), (6, .int .i64 (l.length : Int)), (7, .int .i64 (((i : Nat) : Int) + 1))] [.cells [.int .i64 ((l.getD i q0).kind), .int .i64 ((l.getD i q0).right), .int .i64 ((l.getD i q0).wrong)]])) (e := .normal) (ob := [(.int .i64 (IntKind.wrap .i64 (((i : Nat) : Int) + 1)) : AV) = (.int .i64 (((i : Nat) : Int) + 1) : AV)]) (by kernel_rfl) ⟨iW (w64 (by omega) (by omega)), trivial⟩ ?_
              exact loop_g [0, 5, 6, 7] 0 (l.length - (i + 1)) (by omega) rfl (s' := (stX .any 52 [(0, .list (l.map encQ)), (5, .list (l.map encQ)), (6, .int .i64 (l.length : Int)), (7, .int .i64 (((i : Nat) : Int) + 1))] [])) (ob := []) (by kernel_rfl) trivial (⟨(i + 1), (by omega), upto_step hp (by unfold OkAt; omega), rfl, rfl⟩)
  · refine Ok.evf (by kernel_rfl) 400 [.v (.bool false)] [0, 2, 5, 6, 7, 8] 0 (st' := (stX .any 52 [(0, .list (l.map encQ)), (5, .list (l.map encQ)), (6, .int .i64 (l.length : Int)), (7, .int .i64 ((i : Nat) : Int)), (8, .bool false)] [])) (e := .normal) (ob := [(.bool (decide (((i : Nat) : Int) < (l.length : Int))) : AV) = (.bool false : AV)]) (by kernel_rfl) ⟨(bF q1), trivial⟩ ?_
    refine seq_n ?_
    refine Ok.evf (by kernel_rfl) 400 [.d] [2] 0 (st' := (stX .any 52 [] [])) (e := (.exit 0)) (ob := []) (by kernel_rfl) trivial ?_
    refine loopg_e ?_
    refine blkQ_here ?_
    refine seq_n ?_
    refine Ok.evf (by kernel_rfl) 400 [.d] [2] 0 (st' := (stX .any 52 [(2, .int .i64 0)] [])) (e := .ret) (ob := []) (by kernel_rfl) trivial ?_
    exact ⟨.inr rfl, finF_of (ob := [(0 : Int) = rightE l]) (by kernel_rfl) ⟨(by first | (unfold rightE; rw [if_pos (show RightP l from fun n hn => hp n (by omega))]) | (unfold rightE; rw [if_neg (fun h : RightP l => by have h := h i (by omega); unfold OkAt at h; omega)])), trivial⟩⟩


def BdQ (x : An) : Prop := (-1152921504606846976 ≤ x.right ∧ x.right ≤ 1152921504606846976) ∧ -1152921504606846976 ≤ x.wrong ∧ x.wrong ≤ 1152921504606846976
theorem getD_mem {l : List An} {n : Nat} (h : n < l.length) : l.getD n q0 ∈ l := by
  rw [List.getD_eq_getElem?_getD, List.getElem?_eq_getElem h]; exact List.getElem_mem h
theorem cons_of {l : List An} (h : 0 < l.length) : l = l.getD 0 q0 :: l.drop 1 := by
  cases l with
  | nil => simp at h
  | cons x l => simp
theorem merge_l {p q : List An} (h : 0 < p.length) (k : q.length = 0 ∨ (p.getD 0 q0).kind < (q.getD 0 q0).kind) : mergeF p q = p.getD 0 q0 :: mergeF (p.drop 1) q := by
  cases p with
  | nil => simp at h
  | cons x p =>
    cases q with
    | nil => cases p <;> simp [mergeF]
    | cons y q =>
      rcases k with k | k
      · simp at k
      · rw [mergeF, if_pos (by simpa using k)]; simp
theorem merge_r {p q : List An} (h : 0 < q.length) (k : p.length = 0 ∨ (q.getD 0 q0).kind < (p.getD 0 q0).kind) : mergeF p q = q.getD 0 q0 :: mergeF p (q.drop 1) := by
  cases q with
  | nil => simp at h
  | cons y q =>
    cases p with
    | nil => simp [mergeF]
    | cons x p =>
      rcases k with k | k
      · simp at k
      · have k : y.kind < x.kind := by simpa using k
        rw [mergeF, if_neg (by omega), if_pos k]; simp
theorem merge_b {p q : List An} (h : 0 < p.length) (h2 : 0 < q.length) (k : (p.getD 0 q0).kind = (q.getD 0 q0).kind) : mergeF p q = sumQ (p.getD 0 q0) (q.getD 0 q0) :: mergeF (p.drop 1) (q.drop 1) := by
  cases q with
  | nil => simp at h2
  | cons y q =>
    cases p with
    | nil => simp at h
    | cons x p =>
      have k : x.kind = y.kind := by simpa using k
      rw [mergeF, if_neg (by omega), if_neg (by omega)]; simp
theorem merge_nil : mergeF [] [] = [] := by simp [mergeF]

theorem od_key {x : An}  : FnF Try.prog 44 true [encQ x] (.int .i64 x.kind) := by
  exact fn_evF (by kernel_rfl) Try.func44 (by kernel_rfl) 400 [.d, .d, .d, .d, .d] (by kernel_rfl) (ob := [(x.kind : Int) = x.kind]) (by kernel_rfl) ⟨rfl, trivial⟩

theorem od_sum {x y : An} (hx : BdQ x) (hy : BdQ y) : FnF Try.prog 42 true [encQ x, encQ y] (encQ (sumQ x y)) := by
  have kx : (-1152921504606846976 ≤ x.right ∧ x.right ≤ 1152921504606846976) ∧ -1152921504606846976 ≤ x.wrong ∧ x.wrong ≤ 1152921504606846976 := hx
  have ky : (-1152921504606846976 ≤ y.right ∧ y.right ≤ 1152921504606846976) ∧ -1152921504606846976 ≤ y.wrong ∧ y.wrong ≤ 1152921504606846976 := hy
  exact fn_evF (by kernel_rfl) Try.func42 (by kernel_rfl) 400 [.d, .d, .d, .d, .d, .d, .d, .d, .d, .v (.int .i64 (x.right + y.right)), .d, .d, .d, .d, .v (.int .i64 (x.wrong + y.wrong)), .d, .d] (by kernel_rfl) (ob := [(.int .i64 (IntKind.wrap .i64 (x.right + y.right)) : AV) = (.int .i64 (x.right + y.right) : AV), (.int .i64 (IntKind.wrap .i64 (x.wrong + y.wrong)) : AV) = (.int .i64 (x.wrong + y.wrong) : AV), (x.kind : Int) = (sumQ x y).kind, (x.right + y.right : Int) = (sumQ x y).right, (x.wrong + y.wrong : Int) = (sumQ x y).wrong]) (by kernel_rfl) ⟨iW (w64 (by omega) (by omega)), iW (w64 (by omega) (by omega)), rfl, rfl, rfl, trivial⟩

theorem od_merge {a b : List An} (ha : ∀ x ∈ a, BdQ x) (hb : ∀ x ∈ b, BdQ x) (hab : a.length + b.length ≤ 2000000) : FnF Try.prog 43 true [.list (a.map encQ), .list (b.map encQ), .func (.func 44) [] [], .func (.func 42) [] []] (.list ((mergeF a b).map encQ)) := by
  refine fn_walkF Try.func43 (by kernel_rfl) (by kernel_rfl) (by kernel_rfl) (st := (stX (.tuple []) 87 [(0, .list (a.map encQ)), (1, .list (b.map encQ)), (2, .func (.func 44) [] []), (3, .func (.func 42) [] [])] [])) rfl ?_
  refine Ok.seqP [] (by kernel_rfl) ?_
  refine Ok.evf (by kernel_rfl) 400 [.d] [0, 1, 2, 3, 8, 9] 0 (st' := (stX .any 87 [(0, .list (a.map encQ)), (1, .list (b.map encQ)), (2, .func (.func 44) [] []), (3, .func (.func 42) [] []), (8, .nilslice), (9, .tuple [])] [])) (e := .normal) (ob := []) (by kernel_rfl) trivial ?_
  refine seq_n ?_
  refine Ok.seqP [true] (by kernel_rfl) ?_
  refine Ok.evf (by kernel_rfl) 400 [.d] [0, 1, 2, 3, 8, 9] 0 (st' := (stX .any 87 [(0, .list (a.map encQ)), (1, .list (b.map encQ)), (2, .func (.func 44) [] []), (3, .func (.func 42) [] []), (8, .nilslice), (9, .nilslice)] [])) (e := .normal) (ob := []) (by kernel_rfl) trivial ?_
  refine seq_n ?_
  refine Ok.seqP [true, true] (by kernel_rfl) ?_
  refine Ok.blockP [true, true, false] 0 (by kernel_rfl) ?_
  refine Ok.loopB [true, true, false, false] (by kernel_rfl) (fun m_ s_ => (∃ (p : List An) (q : List An), (∀ x ∈ p, BdQ x) ∧ (∀ x ∈ q, BdQ x) ∧ (mergeF p q = mergeF a b) ∧ ((p).length + (q).length ≤ 2000000) ∧ m_ = (p).length + (q).length ∧ s_ = (stX .any 87 [(0, .list (p.map encQ)), (1, .list (q.map encQ)), (2, .func (.func 44) [] []), (3, .func (.func 42) [] []), (8, .nilslice), (9, .nilslice)] [])) ∨ (∃ (p : List An) (q : List An) (acc : List An) (e0 : An), (∀ x ∈ p, BdQ x) ∧ (∀ x ∈ q, BdQ x) ∧ (acc ++ mergeF p q = mergeF a b) ∧ ((acc).length + (p).length + (q).length ≤ 2000000) ∧ m_ = (p).length + (q).length ∧ s_ = (stX .any 87 [(0, .list (p.map encQ)), (1, .list (q.map encQ)), (2, .func (.func 44) [] []), (3, .func (.func 42) [] []), (8, .nilslice), (9, .slice 1 0 acc.length 0)] [.row 3 [encQ e0] 0, .row 3 (acc.map encQ) 0]))) ((a).length + (b).length) (.inl (⟨a, b, ha, hb, rfl, hab, rfl, rfl⟩)) ?_
  rintro m_ s_ (⟨p, q, hbp, hbq, hm, hn, rfl, rfl⟩ | ⟨p, q, acc, e0, hbp, hbq, hm, hn, rfl, rfl⟩)
  · refine Ok.seqP [true, true, false, false, false] (by kernel_rfl) ?_
    refine Ok.seqP [true, true, false, false, false, false] (by kernel_rfl) ?_
    by_cases q1 : ((p.length : Int) + (q.length : Int)) > 0
    · refine Ok.evf (by kernel_rfl) 400 [.d, .v (.int .i64 (p.length : Int)), .d, .v (.int .i64 (q.length : Int)), .v (.int .i64 ((p.length : Int) + (q.length : Int))), .v (.bool true)] [0, 1, 2, 3, 8, 9, 15] 0 (st' := (stX .any 87 [(0, .list (p.map encQ)), (1, .list (q.map encQ)), (2, .func (.func 44) [] []), (3, .func (.func 42) [] []), (8, .nilslice), (9, .nilslice), (15, .bool true)] [])) (e := .normal) (ob := [(.int .i64 (((p.map encQ).length : Nat) : Int) : AV) = (.int .i64 (p.length : Int) : AV),
        (.int .i64 (((q.map encQ).length : Nat) : Int) : AV) = (.int .i64 (q.length : Int) : AV),
        (.int .i64 (IntKind.wrap .i64 ((p.length : Int) + (q.length : Int))) : AV) = (.int .i64 ((p.length : Int) + (q.length : Int)) : AV),
        (.bool (decide (((p.length : Int) + (q.length : Int)) > 0)) : AV) = (.bool true : AV)]) (by kernel_rfl) ⟨len_map, len_map, iW (w64 (by omega) (by omega)), (bT q1), trivial⟩ ?_
      refine seq_n ?_
      refine Ok.evf (by kernel_rfl) 400 [.d] [0, 1, 2, 3, 8, 9] 0 (st' := (stX .any 87 [(0, .list (p.map encQ)), (1, .list (q.map encQ)), (2, .func (.func 44) [] []), (3, .func (.func 42) [] []), (8, .nilslice), (9, .nilslice)] [])) (e := .normal) (ob := []) (by kernel_rfl) trivial ?_
      refine seq_n ?_
      refine Ok.blockP [true, true, false, false, false, true] 1 (by kernel_rfl) ?_
      refine Ok.blockP [true, true, false, false, false, true, false] 2 (by kernel_rfl) ?_
      refine Ok.seqP [true, true, false, false, false, true, false, false] (by kernel_rfl) ?_
      by_cases q2 : (q.length : Int) = 0
      · refine Ok.evf (by kernel_rfl) 400 [.d, .v (.int .i64 (q.length : Int)), .v (.bool true), .d, .d, .d, .d, .d, .d, .d, .d, .d, .d, .d, .d, .d, .d, .d, .d, .d, .d, .d] [0, 1, 2, 3, 8, 9, 31] 0 (st' := (stX .any 87 [(0, .list (p.map encQ)), (1, .list (q.map encQ)), (2, .func (.func 44) [] []), (3, .func (.func 42) [] []), (8, .nilslice), (9, .nilslice), (31, .bool true)] [])) (e := .normal) (ob := [(.int .i64 (((q.map encQ).length : Nat) : Int) : AV) = (.int .i64 (q.length : Int) : AV),
        (.bool ((q.length : Int) == 0) : AV) = (.bool true : AV)]) (by kernel_rfl) ⟨len_map, (eT q2), trivial⟩ ?_
        refine seq_n ?_
        refine Ok.evf (by kernel_rfl) 400 [.d, .d, .d, .e (encQ (p.getD 0 q0)), .d, .d, .d, .d, .v (.list ((p.drop 1).map encQ)), .d, .d] [0, 1, 2, 3, 8, 9] 2 (st' := (stX .any 87 [(0, .list ((p.drop 1).map encQ)), (1, .list (q.map encQ)), (2, .func (.func 44) [] []), (3, .func (.func 42) [] []), (8, .nilslice), (9, .slice 1 0 1 0)] [.row 3 [.agg [.int .i64 ((p.getD 0 q0).kind), .int .i64 ((p.getD 0 q0).right), .int .i64 ((p.getD 0 q0).wrong)]] 0, .row 3 [.agg [.int .i64 ((p.getD 0 q0).kind), .int .i64 ((p.getD 0 q0).right), .int .i64 ((p.getD 0 q0).wrong)]] 0])) (e := .normal) (ob := [∀ e ∈ ([.agg [.int .i64 ((p.getD 0 q0).kind), .int .i64 ((p.getD 0 q0).right), .int .i64 ((p.getD 0 q0).wrong)]] : List AV), belowV 2 e = true,
        ∀ e ∈ ([.agg [.int .i64 ((p.getD 0 q0).kind), .int .i64 ((p.getD 0 q0).right), .int .i64 ((p.getD 0 q0).wrong)]] : List AV), belowV 2 e = true,
        0 ≤ (0 : Int),
        (p.map encQ)[0]? = some (encQ (p.getD 0 q0)),
        (2 * ([.agg [.int .i64 ((p.getD 0 q0).kind), .int .i64 ((p.getD 0 q0).right), .int .i64 ((p.getD 0 q0).wrong)]] : List AV).length + 1024) * 24 ≤ 2 ^ 48,
        ∀ y ∈ ([.agg [.int .i64 ((p.getD 0 q0).kind), .int .i64 ((p.getD 0 q0).right), .int .i64 ((p.getD 0 q0).wrong)]] : List AV), (cellsOf y).length = 3 ∧ ∀ c ∈ cellsOf y, isCell c = true,
        (.list (((p.map encQ).take (p.map encQ).length).drop 1) : AV) = (.list ((p.drop 1).map encQ) : AV),
        0 ≤ (1 : Int) ∧ (1 : Int) ≤ ((p.map encQ).length : Int) ∧ ((p.map encQ).length : Int) ≤ ((p.map encQ : List AV).length : Int),
        ∀ x ∈ (p.map encQ : List AV), (cellsOf x).length = 3]) (by kernel_rfl) ⟨(by simp [belowV, idsOf, idsL, encQ]), (by simp [belowV, idsOf, idsL, encQ]), (by decide), elemN (by omega) (by omega), (by simp), (by simp [cellsOf, isCell, encQ]), slice_map0, (by first | (simp; done) | omega | (simp; omega)), cells_map (f := encQ) (fun _ => rfl) _, trivial⟩ ?_
        refine blk_n ?_
        refine blk_n ?_
        exact loop_g [0, 1, 2, 3, 8, 9] 2 ((p.drop 1).length + (q).length) (by simp; omega) rfl (s' := (stX .any 87 [(0, .list ((p.drop 1).map encQ)), (1, .list (q.map encQ)), (2, .func (.func 44) [] []), (3, .func (.func 42) [] []), (8, .nilslice), (9, .slice 1 0 1 0)] [.row 3 [.agg [.int .i64 ((p.getD 0 q0).kind), .int .i64 ((p.getD 0 q0).right), .int .i64 ((p.getD 0 q0).wrong)]] 0, .row 3 [.agg [.int .i64 ((p.getD 0 q0).kind), .int .i64 ((p.getD 0 q0).right), .int .i64 ((p.getD 0 q0).wrong)]] 0])) (ob := [∀ e ∈ ([.agg [.int .i64 ((p.getD 0 q0).kind), .int .i64 ((p.getD 0 q0).right), .int .i64 ((p.getD 0 q0).wrong)]] : List AV), idsOf e = [],
        ∀ e ∈ ([.agg [.int .i64 ((p.getD 0 q0).kind), .int .i64 ((p.getD 0 q0).right), .int .i64 ((p.getD 0 q0).wrong)]] : List AV), idsOf e = []]) (by kernel_rfl) ⟨(by simp [idsOf, idsL, encQ]), (by simp [idsOf, idsL, encQ]), trivial⟩ (.inr (⟨(p.drop 1), q, ([p.getD 0 q0]), (p.getD 0 q0), fun x hx => hbp x (List.mem_of_mem_drop hx), hbq, (by rw [← hm, merge_l (p := p) (q := q) (by omega) (by omega)]; rfl), (by simp; omega), rfl, by first | rfl | (rw [List.length_append]; rfl)⟩))
      · by_cases q3 : (p.length : Int) > 0
        · by_cases q4 : ((p.getD 0 q0).kind) < ((q.getD 0 q0).kind)
          · refine Ok.evf (by kernel_rfl) 400 [.d, .v (.int .i64 (q.length : Int)), .v (.bool false), .d, .d, .v (.int .i64 (p.length : Int)), .v (.bool true), .d, .d, .d, .e (encQ (p.getD 0 q0)), .d, .f true (.int .i64 ((p.getD 0 q0).kind)), .d, .d, .e (encQ (q.getD 0 q0)), .d, .f true (.int .i64 ((q.getD 0 q0).kind)), .v (.bool true), .d, .d, .d] [0, 1, 2, 3, 8, 9, 31] 0 (st' := (stX .any 87 [(0, .list (p.map encQ)), (1, .list (q.map encQ)), (2, .func (.func 44) [] []), (3, .func (.func 42) [] []), (8, .nilslice), (9, .nilslice), (31, .bool true)] [])) (e := .normal) (ob := [(.int .i64 (((q.map encQ).length : Nat) : Int) : AV) = (.int .i64 (q.length : Int) : AV),
        (.bool ((q.length : Int) == 0) : AV) = (.bool false : AV),
        (.int .i64 (((p.map encQ).length : Nat) : Int) : AV) = (.int .i64 (p.length : Int) : AV),
        (.bool (decide ((p.length : Int) > 0)) : AV) = (.bool true : AV),
        0 ≤ (0 : Int),
        (p.map encQ)[0]? = some (encQ (p.getD 0 q0)),
        FnF Try.prog 44 true [.agg [.int .i64 ((p.getD 0 q0).kind), .int .i64 ((p.getD 0 q0).right), .int .i64 ((p.getD 0 q0).wrong)]] (.int .i64 ((p.getD 0 q0).kind)),
        0 ≤ (0 : Int),
        (q.map encQ)[0]? = some (encQ (q.getD 0 q0)),
        FnF Try.prog 44 true [.agg [.int .i64 ((q.getD 0 q0).kind), .int .i64 ((q.getD 0 q0).right), .int .i64 ((q.getD 0 q0).wrong)]] (.int .i64 ((q.getD 0 q0).kind)),
        (.bool (decide (((p.getD 0 q0).kind) < ((q.getD 0 q0).kind))) : AV) = (.bool true : AV)]) (by kernel_rfl) ⟨len_map, (eF q2), len_map, (bT q3), (by decide), elemN (by omega) (by omega), od_key (x := (p.getD 0 q0)), (by decide), elemN (by omega) (by omega), od_key (x := (q.getD 0 q0)), (bT q4), trivial⟩ ?_
            refine seq_n ?_
            refine Ok.evf (by kernel_rfl) 400 [.d, .d, .d, .e (encQ (p.getD 0 q0)), .d, .d, .d, .d, .v (.list ((p.drop 1).map encQ)), .d, .d] [0, 1, 2, 3, 8, 9] 2 (st' := (stX .any 87 [(0, .list ((p.drop 1).map encQ)), (1, .list (q.map encQ)), (2, .func (.func 44) [] []), (3, .func (.func 42) [] []), (8, .nilslice), (9, .slice 1 0 1 0)] [.row 3 [.agg [.int .i64 ((p.getD 0 q0).kind), .int .i64 ((p.getD 0 q0).right), .int .i64 ((p.getD 0 q0).wrong)]] 0, .row 3 [.agg [.int .i64 ((p.getD 0 q0).kind), .int .i64 ((p.getD 0 q0).right), .int .i64 ((p.getD 0 q0).wrong)]] 0])) (e := .normal) (ob := [∀ e ∈ ([.agg [.int .i64 ((p.getD 0 q0).kind), .int .i64 ((p.getD 0 q0).right), .int .i64 ((p.getD 0 q0).wrong)]] : List AV), belowV 2 e = true,
        ∀ e ∈ ([.agg [.int .i64 ((p.getD 0 q0).kind), .int .i64 ((p.getD 0 q0).right), .int .i64 ((p.getD 0 q0).wrong)]] : List AV), belowV 2 e = true,
        0 ≤ (0 : Int),
        (p.map encQ)[0]? = some (encQ (p.getD 0 q0)),
        (2 * ([.agg [.int .i64 ((p.getD 0 q0).kind), .int .i64 ((p.getD 0 q0).right), .int .i64 ((p.getD 0 q0).wrong)]] : List AV).length + 1024) * 24 ≤ 2 ^ 48,
        ∀ y ∈ ([.agg [.int .i64 ((p.getD 0 q0).kind), .int .i64 ((p.getD 0 q0).right), .int .i64 ((p.getD 0 q0).wrong)]] : List AV), (cellsOf y).length = 3 ∧ ∀ c ∈ cellsOf y, isCell c = true,
        (.list (((p.map encQ).take (p.map encQ).length).drop 1) : AV) = (.list ((p.drop 1).map encQ) : AV),
        0 ≤ (1 : Int) ∧ (1 : Int) ≤ ((p.map encQ).length : Int) ∧ ((p.map encQ).length : Int) ≤ ((p.map encQ : List AV).length : Int),
        ∀ x ∈ (p.map encQ : List AV), (cellsOf x).length = 3]) (by kernel_rfl) ⟨(by simp [belowV, idsOf, idsL, encQ]), (by simp [belowV, idsOf, idsL, encQ]), (by decide), elemN (by omega) (by omega), (by simp), (by simp [cellsOf, isCell, encQ]), slice_map0, (by first | (simp; done) | omega | (simp; omega)), cells_map (f := encQ) (fun _ => rfl) _, trivial⟩ ?_
            refine blk_n ?_
            refine blk_n ?_
            exact loop_g [0, 1, 2, 3, 8, 9] 2 ((p.drop 1).length + (q).length) (by simp; omega) rfl (s' := (stX .any 87 [(0, .list ((p.drop 1).map encQ)), (1, .list (q.map encQ)), (2, .func (.func 44) [] []), (3, .func (.func 42) [] []), (8, .nilslice), (9, .slice 1 0 1 0)] [.row 3 [.agg [.int .i64 ((p.getD 0 q0).kind), .int .i64 ((p.getD 0 q0).right), .int .i64 ((p.getD 0 q0).wrong)]] 0, .row 3 [.agg [.int .i64 ((p.getD 0 q0).kind), .int .i64 ((p.getD 0 q0).right), .int .i64 ((p.getD 0 q0).wrong)]] 0])) (ob := [∀ e ∈ ([.agg [.int .i64 ((p.getD 0 q0).kind), .int .i64 ((p.getD 0 q0).right), .int .i64 ((p.getD 0 q0).wrong)]] : List AV), idsOf e = [],
        ∀ e ∈ ([.agg [.int .i64 ((p.getD 0 q0).kind), .int .i64 ((p.getD 0 q0).right), .int .i64 ((p.getD 0 q0).wrong)]] : List AV), idsOf e = []]) (by kernel_rfl) ⟨(by simp [idsOf, idsL, encQ]), (by simp [idsOf, idsL, encQ]), trivial⟩ (.inr (⟨(p.drop 1), q, ([p.getD 0 q0]), (p.getD 0 q0), fun x hx => hbp x (List.mem_of_mem_drop hx), hbq, (by rw [← hm, merge_l (p := p) (q := q) (by omega) (by omega)]; rfl), (by simp; omega), rfl, by first | rfl | (rw [List.length_append]; rfl)⟩))
          · refine Ok.evf (by kernel_rfl) 400 [.d, .v (.int .i64 (q.length : Int)), .v (.bool false), .d, .d, .v (.int .i64 (p.length : Int)), .v (.bool true), .d, .d, .d, .e (encQ (p.getD 0 q0)), .d, .f true (.int .i64 ((p.getD 0 q0).kind)), .d, .d, .e (encQ (q.getD 0 q0)), .d, .f true (.int .i64 ((q.getD 0 q0).kind)), .v (.bool false), .d, .d, .d] [0, 1, 2, 3, 8, 9, 31] 0 (st' := (stX .any 87 [(0, .list (p.map encQ)), (1, .list (q.map encQ)), (2, .func (.func 44) [] []), (3, .func (.func 42) [] []), (8, .nilslice), (9, .nilslice), (31, .bool false)] [])) (e := .normal) (ob := [(.int .i64 (((q.map encQ).length : Nat) : Int) : AV) = (.int .i64 (q.length : Int) : AV),
        (.bool ((q.length : Int) == 0) : AV) = (.bool false : AV),
        (.int .i64 (((p.map encQ).length : Nat) : Int) : AV) = (.int .i64 (p.length : Int) : AV),
        (.bool (decide ((p.length : Int) > 0)) : AV) = (.bool true : AV),
        0 ≤ (0 : Int),
        (p.map encQ)[0]? = some (encQ (p.getD 0 q0)),
        FnF Try.prog 44 true [.agg [.int .i64 ((p.getD 0 q0).kind), .int .i64 ((p.getD 0 q0).right), .int .i64 ((p.getD 0 q0).wrong)]] (.int .i64 ((p.getD 0 q0).kind)),
        0 ≤ (0 : Int),
        (q.map encQ)[0]? = some (encQ (q.getD 0 q0)),
        FnF Try.prog 44 true [.agg [.int .i64 ((q.getD 0 q0).kind), .int .i64 ((q.getD 0 q0).right), .int .i64 ((q.getD 0 q0).wrong)]] (.int .i64 ((q.getD 0 q0).kind)),
        (.bool (decide (((p.getD 0 q0).kind) < ((q.getD 0 q0).kind))) : AV) = (.bool false : AV)]) (by kernel_rfl) ⟨len_map, (eF q2), len_map, (bT q3), (by decide), elemN (by omega) (by omega), od_key (x := (p.getD 0 q0)), (by decide), elemN (by omega) (by omega), od_key (x := (q.getD 0 q0)), (bF q4), trivial⟩ ?_
            refine seq_n ?_
            by_cases q5 : ((q.getD 0 q0).kind) < ((p.getD 0 q0).kind)
            · refine Ok.evf (by kernel_rfl) 400 [.d, .d, .v (.int .i64 (p.length : Int)), .v (.bool false), .d, .d, .d, .e (encQ (q.getD 0 q0)), .d, .f true (.int .i64 ((q.getD 0 q0).kind)), .d, .d, .e (encQ (p.getD 0 q0)), .d, .f true (.int .i64 ((p.getD 0 q0).kind)), .v (.bool true), .d, .d, .d, .d, .d, .e (encQ (q.getD 0 q0)), .d, .d, .d, .d, .v (.list ((q.drop 1).map encQ)), .d, .d] [0, 1, 2, 3, 8, 9] 2 (st' := (stX .any 87 [(0, .list (p.map encQ)), (1, .list ((q.drop 1).map encQ)), (2, .func (.func 44) [] []), (3, .func (.func 42) [] []), (8, .nilslice), (9, .slice 1 0 1 0)] [.row 3 [.agg [.int .i64 ((q.getD 0 q0).kind), .int .i64 ((q.getD 0 q0).right), .int .i64 ((q.getD 0 q0).wrong)]] 0, .row 3 [.agg [.int .i64 ((q.getD 0 q0).kind), .int .i64 ((q.getD 0 q0).right), .int .i64 ((q.getD 0 q0).wrong)]] 0])) (e := .normal) (ob := [∀ e ∈ ([.agg [.int .i64 ((q.getD 0 q0).kind), .int .i64 ((q.getD 0 q0).right), .int .i64 ((q.getD 0 q0).wrong)]] : List AV), belowV 2 e = true,
        ∀ e ∈ ([.agg [.int .i64 ((q.getD 0 q0).kind), .int .i64 ((q.getD 0 q0).right), .int .i64 ((q.getD 0 q0).wrong)]] : List AV), belowV 2 e = true,
        (.int .i64 (((p.map encQ).length : Nat) : Int) : AV) = (.int .i64 (p.length : Int) : AV),
        (.bool ((p.length : Int) == 0) : AV) = (.bool false : AV),
        0 ≤ (0 : Int),
        (q.map encQ)[0]? = some (encQ (q.getD 0 q0)),
        FnF Try.prog 44 true [.agg [.int .i64 ((q.getD 0 q0).kind), .int .i64 ((q.getD 0 q0).right), .int .i64 ((q.getD 0 q0).wrong)]] (.int .i64 ((q.getD 0 q0).kind)),
        0 ≤ (0 : Int),
        (p.map encQ)[0]? = some (encQ (p.getD 0 q0)),
        FnF Try.prog 44 true [.agg [.int .i64 ((p.getD 0 q0).kind), .int .i64 ((p.getD 0 q0).right), .int .i64 ((p.getD 0 q0).wrong)]] (.int .i64 ((p.getD 0 q0).kind)),
        (.bool (decide (((q.getD 0 q0).kind) < ((p.getD 0 q0).kind))) : AV) = (.bool true : AV),
        0 ≤ (0 : Int),
        (q.map encQ)[0]? = some (encQ (q.getD 0 q0)),
        (2 * ([.agg [.int .i64 ((q.getD 0 q0).kind), .int .i64 ((q.getD 0 q0).right), .int .i64 ((q.getD 0 q0).wrong)]] : List AV).length + 1024) * 24 ≤ 2 ^ 48,
        ∀ y ∈ ([.agg [.int .i64 ((q.getD 0 q0).kind), .int .i64 ((q.getD 0 q0).right), .int .i64 ((q.getD 0 q0).wrong)]] : List AV), (cellsOf y).length = 3 ∧ ∀ c ∈ cellsOf y, isCell c = true,
        (.list (((q.map encQ).take (q.map encQ).length).drop 1) : AV) = (.list ((q.drop 1).map encQ) : AV),
        0 ≤ (1 : Int) ∧ (1 : Int) ≤ ((q.map encQ).length : Int) ∧ ((q.map encQ).length : Int) ≤ ((q.map encQ : List AV).length : Int),
        ∀ x ∈ (q.map encQ : List AV), (cellsOf x).length = 3]) (by kernel_rfl) ⟨(by simp [belowV, idsOf, idsL, encQ]), (by simp [belowV, idsOf, idsL, encQ]), len_map, (eF (by omega)), (by decide), elemN (by omega) (by omega), od_key (x := (q.getD 0 q0)), (by decide), elemN (by omega) (by omega), od_key (x := (p.getD 0 q0)), (bT q5), (by decide), elemN (by omega) (by omega), (by simp), (by simp [cellsOf, isCell, encQ]), slice_map0, (by first | (simp; done) | omega | (simp; omega)), cells_map (f := encQ) (fun _ => rfl) _, trivial⟩ ?_
              refine blk_n ?_
              refine blk_n ?_
              exact loop_g [0, 1, 2, 3, 8, 9] 2 ((p).length + (q.drop 1).length) (by simp; omega) rfl (s' := (stX .any 87 [(0, .list (p.map encQ)), (1, .list ((q.drop 1).map encQ)), (2, .func (.func 44) [] []), (3, .func (.func 42) [] []), (8, .nilslice), (9, .slice 1 0 1 0)] [.row 3 [.agg [.int .i64 ((q.getD 0 q0).kind), .int .i64 ((q.getD 0 q0).right), .int .i64 ((q.getD 0 q0).wrong)]] 0, .row 3 [.agg [.int .i64 ((q.getD 0 q0).kind), .int .i64 ((q.getD 0 q0).right), .int .i64 ((q.getD 0 q0).wrong)]] 0])) (ob := [∀ e ∈ ([.agg [.int .i64 ((q.getD 0 q0).kind), .int .i64 ((q.getD 0 q0).right), .int .i64 ((q.getD 0 q0).wrong)]] : List AV), idsOf e = [],
        ∀ e ∈ ([.agg [.int .i64 ((q.getD 0 q0).kind), .int .i64 ((q.getD 0 q0).right), .int .i64 ((q.getD 0 q0).wrong)]] : List AV), idsOf e = []]) (by kernel_rfl) ⟨(by simp [idsOf, idsL, encQ]), (by simp [idsOf, idsL, encQ]), trivial⟩ (.inr (⟨p, (q.drop 1), ([q.getD 0 q0]), (q.getD 0 q0), hbp, fun x hx => hbq x (List.mem_of_mem_drop hx), (by rw [← hm, merge_r (p := p) (q := q) (by omega) (by omega)]; rfl), (by simp; omega), rfl, by first | rfl | (rw [List.length_append]; rfl)⟩))
            · refine Ok.evf (by kernel_rfl) 400 [.d, .d, .v (.int .i64 (p.length : Int)), .v (.bool false), .d, .d, .d, .e (encQ (q.getD 0 q0)), .d, .f true (.int .i64 ((q.getD 0 q0).kind)), .d, .d, .e (encQ (p.getD 0 q0)), .d, .f true (.int .i64 ((p.getD 0 q0).kind)), .v (.bool false), .d, .d, .d, .d, .d, .d, .e (encQ (p.getD 0 q0)), .d, .d, .e (encQ (q.getD 0 q0)), .d, .f true (encQ (sumQ (p.getD 0 q0) (q.getD 0 q0))), .d, .d, .d, .v (.list ((p.drop 1).map encQ)), .d, .v (.list ((q.drop 1).map encQ)), .d, .d, .d] [0, 1, 2, 3, 8, 9] 2 (st' := (stX .any 87 [(0, .list ((p.drop 1).map encQ)), (1, .list ((q.drop 1).map encQ)), (2, .func (.func 44) [] []), (3, .func (.func 42) [] []), (8, .nilslice), (9, .slice 1 0 1 0)] [.row 3 [encQ (sumQ (p.getD 0 q0) (q.getD 0 q0))] 0, .row 3 [encQ (sumQ (p.getD 0 q0) (q.getD 0 q0))] 0])) (e := .normal) (ob := [∀ e ∈ ([encQ (sumQ (p.getD 0 q0) (q.getD 0 q0))] : List AV), belowV 2 e = true,
        ∀ e ∈ ([encQ (sumQ (p.getD 0 q0) (q.getD 0 q0))] : List AV), belowV 2 e = true,
        (.int .i64 (((p.map encQ).length : Nat) : Int) : AV) = (.int .i64 (p.length : Int) : AV),
        (.bool ((p.length : Int) == 0) : AV) = (.bool false : AV),
        0 ≤ (0 : Int),
        (q.map encQ)[0]? = some (encQ (q.getD 0 q0)),
        FnF Try.prog 44 true [.agg [.int .i64 ((q.getD 0 q0).kind), .int .i64 ((q.getD 0 q0).right), .int .i64 ((q.getD 0 q0).wrong)]] (.int .i64 ((q.getD 0 q0).kind)),
        0 ≤ (0 : Int),
        (p.map encQ)[0]? = some (encQ (p.getD 0 q0)),
        FnF Try.prog 44 true [.agg [.int .i64 ((p.getD 0 q0).kind), .int .i64 ((p.getD 0 q0).right), .int .i64 ((p.getD 0 q0).wrong)]] (.int .i64 ((p.getD 0 q0).kind)),
        (.bool (decide (((q.getD 0 q0).kind) < ((p.getD 0 q0).kind))) : AV) = (.bool false : AV),
        0 ≤ (0 : Int),
        (p.map encQ)[0]? = some (encQ (p.getD 0 q0)),
        0 ≤ (0 : Int),
        (q.map encQ)[0]? = some (encQ (q.getD 0 q0)),
        FnF Try.prog 42 true [.agg [.int .i64 ((p.getD 0 q0).kind), .int .i64 ((p.getD 0 q0).right), .int .i64 ((p.getD 0 q0).wrong)], .agg [.int .i64 ((q.getD 0 q0).kind), .int .i64 ((q.getD 0 q0).right), .int .i64 ((q.getD 0 q0).wrong)]] (encQ (sumQ (p.getD 0 q0) (q.getD 0 q0))),
        (2 * ([encQ (sumQ (p.getD 0 q0) (q.getD 0 q0))] : List AV).length + 1024) * 24 ≤ 2 ^ 48,
        ∀ y ∈ ([encQ (sumQ (p.getD 0 q0) (q.getD 0 q0))] : List AV), (cellsOf y).length = 3 ∧ ∀ c ∈ cellsOf y, isCell c = true,
        (.list (((p.map encQ).take (p.map encQ).length).drop 1) : AV) = (.list ((p.drop 1).map encQ) : AV),
        0 ≤ (1 : Int) ∧ (1 : Int) ≤ ((p.map encQ).length : Int) ∧ ((p.map encQ).length : Int) ≤ ((p.map encQ : List AV).length : Int),
        ∀ x ∈ (p.map encQ : List AV), (cellsOf x).length = 3,
        (.list (((q.map encQ).take (q.map encQ).length).drop 1) : AV) = (.list ((q.drop 1).map encQ) : AV),
        0 ≤ (1 : Int) ∧ (1 : Int) ≤ ((q.map encQ).length : Int) ∧ ((q.map encQ).length : Int) ≤ ((q.map encQ : List AV).length : Int),
        ∀ x ∈ (q.map encQ : List AV), (cellsOf x).length = 3]) (by kernel_rfl) ⟨(by simp [belowV, idsOf, idsL, encQ]), (by simp [belowV, idsOf, idsL, encQ]), len_map, (eF (by omega)), (by decide), elemN (by omega) (by omega), od_key (x := (q.getD 0 q0)), (by decide), elemN (by omega) (by omega), od_key (x := (p.getD 0 q0)), (bF q5), (by decide), elemN (by omega) (by omega), (by decide), elemN (by omega) (by omega), od_sum (x := (p.getD 0 q0)) (y := (q.getD 0 q0)) (hbp _ (getD_mem (by omega))) (hbq _ (getD_mem (by omega))), (by simp), (by simp [cellsOf, isCell, encQ]), slice_map0, (by first | (simp; done) | omega | (simp; omega)), cells_map (f := encQ) (fun _ => rfl) _, slice_map0, (by first | (simp; done) | omega | (simp; omega)), cells_map (f := encQ) (fun _ => rfl) _, trivial⟩ ?_
              refine blk_n ?_
              refine blk_n ?_
              exact loop_g [0, 1, 2, 3, 8, 9] 2 ((p.drop 1).length + (q.drop 1).length) (by simp; omega) rfl (s' := (stX .any 87 [(0, .list ((p.drop 1).map encQ)), (1, .list ((q.drop 1).map encQ)), (2, .func (.func 44) [] []), (3, .func (.func 42) [] []), (8, .nilslice), (9, .slice 1 0 1 0)] [.row 3 [encQ (sumQ (p.getD 0 q0) (q.getD 0 q0))] 0, .row 3 [encQ (sumQ (p.getD 0 q0) (q.getD 0 q0))] 0])) (ob := [∀ e ∈ ([encQ (sumQ (p.getD 0 q0) (q.getD 0 q0))] : List AV), idsOf e = [],
        ∀ e ∈ ([encQ (sumQ (p.getD 0 q0) (q.getD 0 q0))] : List AV), idsOf e = []]) (by kernel_rfl) ⟨(by simp [idsOf, idsL, encQ]), (by simp [idsOf, idsL, encQ]), trivial⟩ (.inr (⟨(p.drop 1), (q.drop 1), ([sumQ (p.getD 0 q0) (q.getD 0 q0)]), (sumQ (p.getD 0 q0) (q.getD 0 q0)), fun x hx => hbp x (List.mem_of_mem_drop hx), fun x hx => hbq x (List.mem_of_mem_drop hx), (by rw [← hm, merge_b (p := p) (q := q) (by omega) (by omega) (by omega)]; rfl), (by simp; omega), rfl, by first | rfl | (rw [List.length_append]; rfl)⟩))
        · refine Ok.evf (by kernel_rfl) 400 [.d, .v (.int .i64 (q.length : Int)), .v (.bool false), .d, .d, .v (.int .i64 (p.length : Int)), .v (.bool false), .d, .d, .d, .d, .d, .d, .d, .d, .d, .d, .d, .d, .d, .d, .d] [0, 1, 2, 3, 8, 9, 31] 0 (st' := (stX .any 87 [(0, .list (p.map encQ)), (1, .list (q.map encQ)), (2, .func (.func 44) [] []), (3, .func (.func 42) [] []), (8, .nilslice), (9, .nilslice), (31, .bool false)] [])) (e := .normal) (ob := [(.int .i64 (((q.map encQ).length : Nat) : Int) : AV) = (.int .i64 (q.length : Int) : AV),
        (.bool ((q.length : Int) == 0) : AV) = (.bool false : AV),
        (.int .i64 (((p.map encQ).length : Nat) : Int) : AV) = (.int .i64 (p.length : Int) : AV),
        (.bool (decide ((p.length : Int) > 0)) : AV) = (.bool false : AV)]) (by kernel_rfl) ⟨len_map, (eF q2), len_map, (bF q3), trivial⟩ ?_
          refine seq_n ?_
          refine Ok.evf (by kernel_rfl) 400 [.d, .d, .v (.int .i64 (p.length : Int)), .v (.bool true), .d, .d, .d, .d, .d, .d, .d, .d, .d, .d, .d, .d, .d, .d, .d, .d, .d, .e (encQ (q.getD 0 q0)), .d, .d, .d, .d, .v (.list ((q.drop 1).map encQ)), .d, .d] [0, 1, 2, 3, 8, 9] 2 (st' := (stX .any 87 [(0, .list (p.map encQ)), (1, .list ((q.drop 1).map encQ)), (2, .func (.func 44) [] []), (3, .func (.func 42) [] []), (8, .nilslice), (9, .slice 1 0 1 0)] [.row 3 [.agg [.int .i64 ((q.getD 0 q0).kind), .int .i64 ((q.getD 0 q0).right), .int .i64 ((q.getD 0 q0).wrong)]] 0, .row 3 [.agg [.int .i64 ((q.getD 0 q0).kind), .int .i64 ((q.getD 0 q0).right), .int .i64 ((q.getD 0 q0).wrong)]] 0])) (e := .normal) (ob := [∀ e ∈ ([.agg [.int .i64 ((q.getD 0 q0).kind), .int .i64 ((q.getD 0 q0).right), .int .i64 ((q.getD 0 q0).wrong)]] : List AV), belowV 2 e = true,
        ∀ e ∈ ([.agg [.int .i64 ((q.getD 0 q0).kind), .int .i64 ((q.getD 0 q0).right), .int .i64 ((q.getD 0 q0).wrong)]] : List AV), belowV 2 e = true,
        (.int .i64 (((p.map encQ).length : Nat) : Int) : AV) = (.int .i64 (p.length : Int) : AV),
        (.bool ((p.length : Int) == 0) : AV) = (.bool true : AV),
        0 ≤ (0 : Int),
        (q.map encQ)[0]? = some (encQ (q.getD 0 q0)),
        (2 * ([.agg [.int .i64 ((q.getD 0 q0).kind), .int .i64 ((q.getD 0 q0).right), .int .i64 ((q.getD 0 q0).wrong)]] : List AV).length + 1024) * 24 ≤ 2 ^ 48,
        ∀ y ∈ ([.agg [.int .i64 ((q.getD 0 q0).kind), .int .i64 ((q.getD 0 q0).right), .int .i64 ((q.getD 0 q0).wrong)]] : List AV), (cellsOf y).length = 3 ∧ ∀ c ∈ cellsOf y, isCell c = true,
        (.list (((q.map encQ).take (q.map encQ).length).drop 1) : AV) = (.list ((q.drop 1).map encQ) : AV),
        0 ≤ (1 : Int) ∧ (1 : Int) ≤ ((q.map encQ).length : Int) ∧ ((q.map encQ).length : Int) ≤ ((q.map encQ : List AV).length : Int),
        ∀ x ∈ (q.map encQ : List AV), (cellsOf x).length = 3]) (by kernel_rfl) ⟨(by simp [belowV, idsOf, idsL, encQ]), (by simp [belowV, idsOf, idsL, encQ]), len_map, (eT (by omega)), (by decide), elemN (by omega) (by omega), (by simp), (by simp [cellsOf, isCell, encQ]), slice_map0, (by first | (simp; done) | omega | (simp; omega)), cells_map (f := encQ) (fun _ => rfl) _, trivial⟩ ?_
          refine blk_n ?_
          refine blk_n ?_
          exact loop_g [0, 1, 2, 3, 8, 9] 2 ((p).length + (q.drop 1).length) (by simp; omega) rfl (s' := (stX .any 87 [(0, .list (p.map encQ)), (1, .list ((q.drop 1).map encQ)), (2, .func (.func 44) [] []), (3, .func (.func 42) [] []), (8, .nilslice), (9, .slice 1 0 1 0)] [.row 3 [.agg [.int .i64 ((q.getD 0 q0).kind), .int .i64 ((q.getD 0 q0).right), .int .i64 ((q.getD 0 q0).wrong)]] 0, .row 3 [.agg [.int .i64 ((q.getD 0 q0).kind), .int .i64 ((q.getD 0 q0).right), .int .i64 ((q.getD 0 q0).wrong)]] 0])) (ob := [∀ e ∈ ([.agg [.int .i64 ((q.getD 0 q0).kind), .int .i64 ((q.getD 0 q0).right), .int .i64 ((q.getD 0 q0).wrong)]] : List AV), idsOf e = [],
        ∀ e ∈ ([.agg [.int .i64 ((q.getD 0 q0).kind), .int .i64 ((q.getD 0 q0).right), .int .i64 ((q.getD 0 q0).wrong)]] : List AV), idsOf e = []]) (by kernel_rfl) ⟨(by simp [idsOf, idsL, encQ]), (by simp [idsOf, idsL, encQ]), trivial⟩ (.inr (⟨p, (q.drop 1), ([q.getD 0 q0]), (q.getD 0 q0), hbp, fun x hx => hbq x (List.mem_of_mem_drop hx), (by rw [← hm, merge_r (p := p) (q := q) (by omega) (by omega)]; rfl), (by simp; omega), rfl, by first | rfl | (rw [List.length_append]; rfl)⟩))
    · refine Ok.evf (by kernel_rfl) 400 [.d, .v (.int .i64 (p.length : Int)), .d, .v (.int .i64 (q.length : Int)), .v (.int .i64 ((p.length : Int) + (q.length : Int))), .v (.bool false)] [0, 1, 2, 3, 8, 9, 15] 0 (st' := (stX .any 87 [(0, .list (p.map encQ)), (1, .list (q.map encQ)), (2, .func (.func 44) [] []), (3, .func (.func 42) [] []), (8, .nilslice), (9, .nilslice), (15, .bool false)] [])) (e := .normal) (ob := [(.int .i64 (((p.map encQ).length : Nat) : Int) : AV) = (.int .i64 (p.length : Int) : AV),
        (.int .i64 (((q.map encQ).length : Nat) : Int) : AV) = (.int .i64 (q.length : Int) : AV),
        (.int .i64 (IntKind.wrap .i64 ((p.length : Int) + (q.length : Int))) : AV) = (.int .i64 ((p.length : Int) + (q.length : Int)) : AV),
        (.bool (decide (((p.length : Int) + (q.length : Int)) > 0)) : AV) = (.bool false : AV)]) (by kernel_rfl) ⟨len_map, len_map, iW (w64 (by omega) (by omega)), (bF q1), trivial⟩ ?_
      refine seq_n ?_
      refine Ok.evf (by kernel_rfl) 400 [.d] [8, 9] 0 (st' := (stX .any 87 [(8, .nilslice), (9, .nilslice)] [])) (e := (.exit 0)) (ob := []) (by kernel_rfl) trivial ?_
      refine seq_e ?_
      refine loopg_e ?_
      refine blkQ_here ?_
      refine seq_n ?_
      refine Ok.evf (by kernel_rfl) 400 [.d, .d] [8] 0 (st' := (stX .any 87 [(8, .nilslice)] [])) (e := .ret) (ob := []) (by kernel_rfl) trivial ?_
      exact ⟨.inr rfl, finF_of (ob := [[] = ((mergeF a b).map encQ : List AV)]) (by kernel_rfl) ⟨(by first | (rw [← hm, show p = [] from List.length_eq_zero_iff.1 (by omega), show q = [] from List.length_eq_zero_iff.1 (by omega), merge_nil]; rfl) | (rw [rowOut rfl, ← hm, show p = [] from List.length_eq_zero_iff.1 (by omega), show q = [] from List.length_eq_zero_iff.1 (by omega), merge_nil, List.append_nil])), trivial⟩⟩
  · refine Ok.seqP [true, true, false, false, false] (by kernel_rfl) ?_
    refine Ok.seqP [true, true, false, false, false, false] (by kernel_rfl) ?_
    by_cases q1 : ((p.length : Int) + (q.length : Int)) > 0
    · refine Ok.evf (by kernel_rfl) 400 [.d, .v (.int .i64 (p.length : Int)), .d, .v (.int .i64 (q.length : Int)), .v (.int .i64 ((p.length : Int) + (q.length : Int))), .v (.bool true)] [0, 1, 2, 3, 8, 9, 15] 2 (st' := (stX .any 87 [(0, .list (p.map encQ)), (1, .list (q.map encQ)), (2, .func (.func 44) [] []), (3, .func (.func 42) [] []), (8, .nilslice), (9, .slice 1 0 acc.length 0), (15, .bool true)] [.row 3 [encQ e0] 0, .row 3 (acc.map encQ) 0])) (e := .normal) (ob := [∀ e ∈ ([encQ e0] : List AV), belowV 2 e = true,
        ∀ e ∈ (acc.map encQ : List AV), belowV 2 e = true,
        (.int .i64 (((p.map encQ).length : Nat) : Int) : AV) = (.int .i64 (p.length : Int) : AV),
        (.int .i64 (((q.map encQ).length : Nat) : Int) : AV) = (.int .i64 (q.length : Int) : AV),
        (.int .i64 (IntKind.wrap .i64 ((p.length : Int) + (q.length : Int))) : AV) = (.int .i64 ((p.length : Int) + (q.length : Int)) : AV),
        (.bool (decide (((p.length : Int) + (q.length : Int)) > 0)) : AV) = (.bool true : AV)]) (by kernel_rfl) ⟨(by simp [belowV, idsOf, idsL, encQ]), below_ids (ids_map (fun _ => rfl) _), len_map, len_map, iW (w64 (by omega) (by omega)), (bT q1), trivial⟩ ?_
      refine seq_n ?_
      refine Ok.evf (by kernel_rfl) 400 [.d] [0, 1, 2, 3, 8, 9] 2 (st' := (stX .any 87 [(0, .list (p.map encQ)), (1, .list (q.map encQ)), (2, .func (.func 44) [] []), (3, .func (.func 42) [] []), (8, .nilslice), (9, .slice 1 0 acc.length 0)] [.row 3 [encQ e0] 0, .row 3 (acc.map encQ) 0])) (e := .normal) (ob := [∀ e ∈ ([encQ e0] : List AV), belowV 2 e = true,
        ∀ e ∈ (acc.map encQ : List AV), belowV 2 e = true]) (by kernel_rfl) ⟨(by simp [belowV, idsOf, idsL, encQ]), below_ids (ids_map (fun _ => rfl) _), trivial⟩ ?_
      refine seq_n ?_
      refine Ok.blockP [true, true, false, false, false, true] 1 (by kernel_rfl) ?_
      refine Ok.blockP [true, true, false, false, false, true, false] 2 (by kernel_rfl) ?_
      refine Ok.seqP [true, true, false, false, false, true, false, false] (by kernel_rfl) ?_
      by_cases q2 : (q.length : Int) = 0
      · refine Ok.evf (by kernel_rfl) 400 [.d, .v (.int .i64 (q.length : Int)), .v (.bool true), .d, .d, .d, .d, .d, .d, .d, .d, .d, .d, .d, .d, .d, .d, .d, .d, .d, .d, .d] [0, 1, 2, 3, 8, 9, 31] 2 (st' := (stX .any 87 [(0, .list (p.map encQ)), (1, .list (q.map encQ)), (2, .func (.func 44) [] []), (3, .func (.func 42) [] []), (8, .nilslice), (9, .slice 1 0 acc.length 0), (31, .bool true)] [.row 3 [encQ e0] 0, .row 3 (acc.map encQ) 0])) (e := .normal) (ob := [∀ e ∈ ([encQ e0] : List AV), belowV 2 e = true,
        ∀ e ∈ (acc.map encQ : List AV), belowV 2 e = true,
        (.int .i64 (((q.map encQ).length : Nat) : Int) : AV) = (.int .i64 (q.length : Int) : AV),
        (.bool ((q.length : Int) == 0) : AV) = (.bool true : AV)]) (by kernel_rfl) ⟨(by simp [belowV, idsOf, idsL, encQ]), below_ids (ids_map (fun _ => rfl) _), len_map, (eT q2), trivial⟩ ?_
        refine seq_n ?_
        refine Ok.evf (by kernel_rfl) 400 [.d, .d, .d, .e (encQ (p.getD 0 q0)), .d, .d, .r ((acc ++ [(p.getD 0 q0)]).map encQ), .d, .v (.list ((p.drop 1).map encQ)), .d, .d] [0, 1, 2, 3, 8, 9] 2 (st' := (stX .any 87 [(0, .list ((p.drop 1).map encQ)), (1, .list (q.map encQ)), (2, .func (.func 44) [] []), (3, .func (.func 42) [] []), (8, .nilslice), (9, .slice 1 0 (acc.length + 1) 1)] [.row 3 [encQ e0] 0, .row 3 ((acc ++ [(p.getD 0 q0)]).map encQ) 1])) (e := .normal) (ob := [∀ e ∈ ([encQ e0] : List AV), belowV 2 e = true,
        ∀ e ∈ ((acc ++ [(p.getD 0 q0)]).map encQ : List AV), belowV 2 e = true,
        0 ≤ (0 : Int),
        (p.map encQ)[0]? = some (encQ (p.getD 0 q0)),
        ((acc.map encQ).take acc.length ++ [.agg [.int .i64 ((p.getD 0 q0).kind), .int .i64 ((p.getD 0 q0).right), .int .i64 ((p.getD 0 q0).wrong)]] : List AV) = (acc ++ [(p.getD 0 q0)]).map encQ,
        (2 * (acc.length + ([.agg [.int .i64 ((p.getD 0 q0).kind), .int .i64 ((p.getD 0 q0).right), .int .i64 ((p.getD 0 q0).wrong)]] : List AV).length) + 1024) * 24 ≤ 2 ^ 48,
        ∀ y ∈ ([.agg [.int .i64 ((p.getD 0 q0).kind), .int .i64 ((p.getD 0 q0).right), .int .i64 ((p.getD 0 q0).wrong)]] : List AV), (cellsOf y).length = 3 ∧ ∀ c ∈ cellsOf y, isCell c = true,
        (.list (((p.map encQ).take (p.map encQ).length).drop 1) : AV) = (.list ((p.drop 1).map encQ) : AV),
        0 ≤ (1 : Int) ∧ (1 : Int) ≤ ((p.map encQ).length : Int) ∧ ((p.map encQ).length : Int) ≤ ((p.map encQ : List AV).length : Int),
        ∀ x ∈ (p.map encQ : List AV), (cellsOf x).length = 3]) (by kernel_rfl) ⟨(by simp [belowV, idsOf, idsL, encQ]), below_ids (ids_map (fun _ => rfl) _), (by decide), elemN (by omega) (by omega), rowApp rfl, (by simp; omega), (by simp [cellsOf, isCell, encQ]), slice_map0, (by first | (simp; done) | omega | (simp; omega)), cells_map (f := encQ) (fun _ => rfl) _, trivial⟩ ?_
        refine blk_n ?_
        refine blk_n ?_
        exact loop_g [0, 1, 2, 3, 8, 9] 2 ((p.drop 1).length + (q).length) (by simp; omega) rfl (s' := (stX .any 87 [(0, .list ((p.drop 1).map encQ)), (1, .list (q.map encQ)), (2, .func (.func 44) [] []), (3, .func (.func 42) [] []), (8, .nilslice), (9, .slice 1 0 (acc.length + 1) 0)] [.row 3 [encQ e0] 0, .row 3 ((acc ++ [(p.getD 0 q0)]).map encQ) 0])) (ob := [∀ e ∈ ([encQ e0] : List AV), idsOf e = [],
        ∀ e ∈ ((acc ++ [(p.getD 0 q0)]).map encQ : List AV), idsOf e = []]) (by kernel_rfl) ⟨(by simp [idsOf, idsL, encQ]), ids_map (fun _ => rfl) _, trivial⟩ (.inr (⟨(p.drop 1), q, (acc ++ [p.getD 0 q0]), e0, fun x hx => hbp x (List.mem_of_mem_drop hx), hbq, (by rw [← hm, merge_l (p := p) (q := q) (by omega) (by omega), List.append_assoc]; rfl), (by simp; omega), rfl, by first | rfl | (rw [List.length_append]; rfl)⟩))
      · by_cases q3 : (p.length : Int) > 0
        · by_cases q4 : ((p.getD 0 q0).kind) < ((q.getD 0 q0).kind)
          · refine Ok.evf (by kernel_rfl) 400 [.d, .v (.int .i64 (q.length : Int)), .v (.bool false), .d, .d, .v (.int .i64 (p.length : Int)), .v (.bool true), .d, .d, .d, .e (encQ (p.getD 0 q0)), .d, .f true (.int .i64 ((p.getD 0 q0).kind)), .d, .d, .e (encQ (q.getD 0 q0)), .d, .f true (.int .i64 ((q.getD 0 q0).kind)), .v (.bool true), .d, .d, .d] [0, 1, 2, 3, 8, 9, 31] 2 (st' := (stX .any 87 [(0, .list (p.map encQ)), (1, .list (q.map encQ)), (2, .func (.func 44) [] []), (3, .func (.func 42) [] []), (8, .nilslice), (9, .slice 1 0 acc.length 0), (31, .bool true)] [.row 3 [encQ e0] 0, .row 3 (acc.map encQ) 0])) (e := .normal) (ob := [∀ e ∈ ([encQ e0] : List AV), belowV 2 e = true,
        ∀ e ∈ (acc.map encQ : List AV), belowV 2 e = true,
        (.int .i64 (((q.map encQ).length : Nat) : Int) : AV) = (.int .i64 (q.length : Int) : AV),
        (.bool ((q.length : Int) == 0) : AV) = (.bool false : AV),
        (.int .i64 (((p.map encQ).length : Nat) : Int) : AV) = (.int .i64 (p.length : Int) : AV),
        (.bool (decide ((p.length : Int) > 0)) : AV) = (.bool true : AV),
        0 ≤ (0 : Int),
        (p.map encQ)[0]? = some (encQ (p.getD 0 q0)),
        FnF Try.prog 44 true [.agg [.int .i64 ((p.getD 0 q0).kind), .int .i64 ((p.getD 0 q0).right), .int .i64 ((p.getD 0 q0).wrong)]] (.int .i64 ((p.getD 0 q0).kind)),
        0 ≤ (0 : Int),
        (q.map encQ)[0]? = some (encQ (q.getD 0 q0)),
        FnF Try.prog 44 true [.agg [.int .i64 ((q.getD 0 q0).kind), .int .i64 ((q.getD 0 q0).right), .int .i64 ((q.getD 0 q0).wrong)]] (.int .i64 ((q.getD 0 q0).kind)),
        (.bool (decide (((p.getD 0 q0).kind) < ((q.getD 0 q0).kind))) : AV) = (.bool true : AV)]) (by kernel_rfl) ⟨(by simp [belowV, idsOf, idsL, encQ]), below_ids (ids_map (fun _ => rfl) _), len_map, (eF q2), len_map, (bT q3), (by decide), elemN (by omega) (by omega), od_key (x := (p.getD 0 q0)), (by decide), elemN (by omega) (by omega), od_key (x := (q.getD 0 q0)), (bT q4), trivial⟩ ?_
            refine seq_n ?_
            refine Ok.evf (by kernel_rfl) 400 [.d, .d, .d, .e (encQ (p.getD 0 q0)), .d, .d, .r ((acc ++ [(p.getD 0 q0)]).map encQ), .d, .v (.list ((p.drop 1).map encQ)), .d, .d] [0, 1, 2, 3, 8, 9] 2 (st' := (stX .any 87 [(0, .list ((p.drop 1).map encQ)), (1, .list (q.map encQ)), (2, .func (.func 44) [] []), (3, .func (.func 42) [] []), (8, .nilslice), (9, .slice 1 0 (acc.length + 1) 1)] [.row 3 [encQ e0] 0, .row 3 ((acc ++ [(p.getD 0 q0)]).map encQ) 1])) (e := .normal) (ob := [∀ e ∈ ([encQ e0] : List AV), belowV 2 e = true,
        ∀ e ∈ ((acc ++ [(p.getD 0 q0)]).map encQ : List AV), belowV 2 e = true,
        0 ≤ (0 : Int),
        (p.map encQ)[0]? = some (encQ (p.getD 0 q0)),
        ((acc.map encQ).take acc.length ++ [.agg [.int .i64 ((p.getD 0 q0).kind), .int .i64 ((p.getD 0 q0).right), .int .i64 ((p.getD 0 q0).wrong)]] : List AV) = (acc ++ [(p.getD 0 q0)]).map encQ,
        (2 * (acc.length + ([.agg [.int .i64 ((p.getD 0 q0).kind), .int .i64 ((p.getD 0 q0).right), .int .i64 ((p.getD 0 q0).wrong)]] : List AV).length) + 1024) * 24 ≤ 2 ^ 48,
        ∀ y ∈ ([.agg [.int .i64 ((p.getD 0 q0).kind), .int .i64 ((p.getD 0 q0).right), .int .i64 ((p.getD 0 q0).wrong)]] : List AV), (cellsOf y).length = 3 ∧ ∀ c ∈ cellsOf y, isCell c = true,
        (.list (((p.map encQ).take (p.map encQ).length).drop 1) : AV) = (.list ((p.drop 1).map encQ) : AV),
        0 ≤ (1 : Int) ∧ (1 : Int) ≤ ((p.map encQ).length : Int) ∧ ((p.map encQ).length : Int) ≤ ((p.map encQ : List AV).length : Int),
        ∀ x ∈ (p.map encQ : List AV), (cellsOf x).length = 3]) (by kernel_rfl) ⟨(by simp [belowV, idsOf, idsL, encQ]), below_ids (ids_map (fun _ => rfl) _), (by decide), elemN (by omega) (by omega), rowApp rfl, (by simp; omega), (by simp [cellsOf, isCell, encQ]), slice_map0, (by first | (simp; done) | omega | (simp; omega)), cells_map (f := encQ) (fun _ => rfl) _, trivial⟩ ?_
            refine blk_n ?_
            refine blk_n ?_
            exact loop_g [0, 1, 2, 3, 8, 9] 2 ((p.drop 1).length + (q).length) (by simp; omega) rfl (s' := (stX .any 87 [(0, .list ((p.drop 1).map encQ)), (1, .list (q.map encQ)), (2, .func (.func 44) [] []), (3, .func (.func 42) [] []), (8, .nilslice), (9, .slice 1 0 (acc.length + 1) 0)] [.row 3 [encQ e0] 0, .row 3 ((acc ++ [(p.getD 0 q0)]).map encQ) 0])) (ob := [∀ e ∈ ([encQ e0] : List AV), idsOf e = [],
        ∀ e ∈ ((acc ++ [(p.getD 0 q0)]).map encQ : List AV), idsOf e = []]) (by kernel_rfl) ⟨(by simp [idsOf, idsL, encQ]), ids_map (fun _ => rfl) _, trivial⟩ (.inr (⟨(p.drop 1), q, (acc ++ [p.getD 0 q0]), e0, fun x hx => hbp x (List.mem_of_mem_drop hx), hbq, (by rw [← hm, merge_l (p := p) (q := q) (by omega) (by omega), List.append_assoc]; rfl), (by simp; omega), rfl, by first | rfl | (rw [List.length_append]; rfl)⟩))
          · refine Ok.evf (by kernel_rfl) 400 [.d, .v (.int .i64 (q.length : Int)), .v (.bool false), .d, .d, .v (.int .i64 (p.length : Int)), .v (.bool true), .d, .d, .d, .e (encQ (p.getD 0 q0)), .d, .f true (.int .i64 ((p.getD 0 q0).kind)), .d, .d, .e (encQ (q.getD 0 q0)), .d, .f true (.int .i64 ((q.getD 0 q0).kind)), .v (.bool false), .d, .d, .d] [0, 1, 2, 3, 8, 9, 31] 2 (st' := (stX .any 87 [(0, .list (p.map encQ)), (1, .list (q.map encQ)), (2, .func (.func 44) [] []), (3, .func (.func 42) [] []), (8, .nilslice), (9, .slice 1 0 acc.length 0), (31, .bool false)] [.row 3 [encQ e0] 0, .row 3 (acc.map encQ) 0])) (e := .normal) (ob := [∀ e ∈ ([encQ e0] : List AV), belowV 2 e = true,
        ∀ e ∈ (acc.map encQ : List AV), belowV 2 e = true,
        (.int .i64 (((q.map encQ).length : Nat) : Int) : AV) = (.int .i64 (q.length : Int) : AV),
        (.bool ((q.length : Int) == 0) : AV) = (.bool false : AV),
        (.int .i64 (((p.map encQ).length : Nat) : Int) : AV) = (.int .i64 (p.length : Int) : AV),
        (.bool (decide ((p.length : Int) > 0)) : AV) = (.bool true : AV),
        0 ≤ (0 : Int),
        (p.map encQ)[0]? = some (encQ (p.getD 0 q0)),
        FnF Try.prog 44 true [.agg [.int .i64 ((p.getD 0 q0).kind), .int .i64 ((p.getD 0 q0).right), .int .i64 ((p.getD 0 q0).wrong)]] (.int .i64 ((p.getD 0 q0).kind)),
        0 ≤ (0 : Int),
        (q.map encQ)[0]? = some (encQ (q.getD 0 q0)),
        FnF Try.prog 44 true [.agg [.int .i64 ((q.getD 0 q0).kind), .int .i64 ((q.getD 0 q0).right), .int .i64 ((q.getD 0 q0).wrong)]] (.int .i64 ((q.getD 0 q0).kind)),
        (.bool (decide (((p.getD 0 q0).kind) < ((q.getD 0 q0).kind))) : AV) = (.bool false : AV)]) (by kernel_rfl) ⟨(by simp [belowV, idsOf, idsL, encQ]), below_ids (ids_map (fun _ => rfl) _), len_map, (eF q2), len_map, (bT q3), (by decide), elemN (by omega) (by omega), od_key (x := (p.getD 0 q0)), (by decide), elemN (by omega) (by omega), od_key (x := (q.getD 0 q0)), (bF q4), trivial⟩ ?_
            refine seq_n ?_
            by_cases q5 : ((q.getD 0 q0).kind) < ((p.getD 0 q0).kind)
            · refine Ok.evf (by kernel_rfl) 400 [.d, .d, .v (.int .i64 (p.length : Int)), .v (.bool false), .d, .d, .d, .e (encQ (q.getD 0 q0)), .d, .f true (.int .i64 ((q.getD 0 q0).kind)), .d, .d, .e (encQ (p.getD 0 q0)), .d, .f true (.int .i64 ((p.getD 0 q0).kind)), .v (.bool true), .d, .d, .d, .d, .d, .e (encQ (q.getD 0 q0)), .d, .d, .r ((acc ++ [(q.getD 0 q0)]).map encQ), .d, .v (.list ((q.drop 1).map encQ)), .d, .d] [0, 1, 2, 3, 8, 9] 2 (st' := (stX .any 87 [(0, .list (p.map encQ)), (1, .list ((q.drop 1).map encQ)), (2, .func (.func 44) [] []), (3, .func (.func 42) [] []), (8, .nilslice), (9, .slice 1 0 (acc.length + 1) 1)] [.row 3 [encQ e0] 0, .row 3 ((acc ++ [(q.getD 0 q0)]).map encQ) 1])) (e := .normal) (ob := [∀ e ∈ ([encQ e0] : List AV), belowV 2 e = true,
        ∀ e ∈ ((acc ++ [(q.getD 0 q0)]).map encQ : List AV), belowV 2 e = true,
        (.int .i64 (((p.map encQ).length : Nat) : Int) : AV) = (.int .i64 (p.length : Int) : AV),
        (.bool ((p.length : Int) == 0) : AV) = (.bool false : AV),
        0 ≤ (0 : Int),
        (q.map encQ)[0]? = some (encQ (q.getD 0 q0)),
        FnF Try.prog 44 true [.agg [.int .i64 ((q.getD 0 q0).kind), .int .i64 ((q.getD 0 q0).right), .int .i64 ((q.getD 0 q0).wrong)]] (.int .i64 ((q.getD 0 q0).kind)),
        0 ≤ (0 : Int),
        (p.map encQ)[0]? = some (encQ (p.getD 0 q0)),
        FnF Try.prog 44 true [.agg [.int .i64 ((p.getD 0 q0).kind), .int .i64 ((p.getD 0 q0).right), .int .i64 ((p.getD 0 q0).wrong)]] (.int .i64 ((p.getD 0 q0).kind)),
        (.bool (decide (((q.getD 0 q0).kind) < ((p.getD 0 q0).kind))) : AV) = (.bool true : AV),
        0 ≤ (0 : Int),
        (q.map encQ)[0]? = some (encQ (q.getD 0 q0)),
        ((acc.map encQ).take acc.length ++ [.agg [.int .i64 ((q.getD 0 q0).kind), .int .i64 ((q.getD 0 q0).right), .int .i64 ((q.getD 0 q0).wrong)]] : List AV) = (acc ++ [(q.getD 0 q0)]).map encQ,
        (2 * (acc.length + ([.agg [.int .i64 ((q.getD 0 q0).kind), .int .i64 ((q.getD 0 q0).right), .int .i64 ((q.getD 0 q0).wrong)]] : List AV).length) + 1024) * 24 ≤ 2 ^ 48,
        ∀ y ∈ ([.agg [.int .i64 ((q.getD 0 q0).kind), .int .i64 ((q.getD 0 q0).right), .int .i64 ((q.getD 0 q0).wrong)]] : List AV), (cellsOf y).length = 3 ∧ ∀ c ∈ cellsOf y, isCell c = true,
        (.list (((q.map encQ).take (q.map encQ).length).drop 1) : AV) = (.list ((q.drop 1).map encQ) : AV),
        0 ≤ (1 : Int) ∧ (1 : Int) ≤ ((q.map encQ).length : Int) ∧ ((q.map encQ).length : Int) ≤ ((q.map encQ : List AV).length : Int),
        ∀ x ∈ (q.map encQ : List AV), (cellsOf x).length = 3]) (by kernel_rfl) ⟨(by simp [belowV, idsOf, idsL, encQ]), below_ids (ids_map (fun _ => rfl) _), len_map, (eF (by omega)), (by decide), elemN (by omega) (by omega), od_key (x := (q.getD 0 q0)), (by decide), elemN (by omega) (by omega), od_key (x := (p.getD 0 q0)), (bT q5), (by decide), elemN (by omega) (by omega), rowApp rfl, (by simp; omega), (by simp [cellsOf, isCell, encQ]), slice_map0, (by first | (simp; done) | omega | (simp; omega)), cells_map (f := encQ) (fun _ => rfl) _, trivial⟩ ?_
              refine blk_n ?_
              refine blk_n ?_
              exact loop_g [0, 1, 2, 3, 8, 9] 2 ((p).length + (q.drop 1).length) (by simp; omega) rfl (s' := (stX .any 87 [(0, .list (p.map encQ)), (1, .list ((q.drop 1).map encQ)), (2, .func (.func 44) [] []), (3, .func (.func 42) [] []), (8, .nilslice), (9, .slice 1 0 (acc.length + 1) 0)] [.row 3 [encQ e0] 0, .row 3 ((acc ++ [(q.getD 0 q0)]).map encQ) 0])) (ob := [∀ e ∈ ([encQ e0] : List AV), idsOf e = [],
        ∀ e ∈ ((acc ++ [(q.getD 0 q0)]).map encQ : List AV), idsOf e = []]) (by kernel_rfl) ⟨(by simp [idsOf, idsL, encQ]), ids_map (fun _ => rfl) _, trivial⟩ (.inr (⟨p, (q.drop 1), (acc ++ [q.getD 0 q0]), e0, hbp, fun x hx => hbq x (List.mem_of_mem_drop hx), (by rw [← hm, merge_r (p := p) (q := q) (by omega) (by omega), List.append_assoc]; rfl), (by simp; omega), rfl, by first | rfl | (rw [List.length_append]; rfl)⟩))
            · refine Ok.evf (by kernel_rfl) 400 [.d, .d, .v (.int .i64 (p.length : Int)), .v (.bool false), .d, .d, .d, .e (encQ (q.getD 0 q0)), .d, .f true (.int .i64 ((q.getD 0 q0).kind)), .d, .d, .e (encQ (p.getD 0 q0)), .d, .f true (.int .i64 ((p.getD 0 q0).kind)), .v (.bool false), .d, .d, .d, .d, .d, .d, .e (encQ (p.getD 0 q0)), .d, .d, .e (encQ (q.getD 0 q0)), .d, .f true (encQ (sumQ (p.getD 0 q0) (q.getD 0 q0))), .d, .r ((acc ++ [sumQ (p.getD 0 q0) (q.getD 0 q0)]).map encQ), .d, .v (.list ((p.drop 1).map encQ)), .d, .v (.list ((q.drop 1).map encQ)), .d, .d, .d] [0, 1, 2, 3, 8, 9] 2 (st' := (stX .any 87 [(0, .list ((p.drop 1).map encQ)), (1, .list ((q.drop 1).map encQ)), (2, .func (.func 44) [] []), (3, .func (.func 42) [] []), (8, .nilslice), (9, .slice 1 0 (acc.length + 1) 1)] [.row 3 [encQ e0] 0, .row 3 ((acc ++ [sumQ (p.getD 0 q0) (q.getD 0 q0)]).map encQ) 1])) (e := .normal) (ob := [∀ e ∈ ([encQ e0] : List AV), belowV 2 e = true,
        ∀ e ∈ ((acc ++ [sumQ (p.getD 0 q0) (q.getD 0 q0)]).map encQ : List AV), belowV 2 e = true,
        (.int .i64 (((p.map encQ).length : Nat) : Int) : AV) = (.int .i64 (p.length : Int) : AV),
        (.bool ((p.length : Int) == 0) : AV) = (.bool false : AV),
        0 ≤ (0 : Int),
        (q.map encQ)[0]? = some (encQ (q.getD 0 q0)),
        FnF Try.prog 44 true [.agg [.int .i64 ((q.getD 0 q0).kind), .int .i64 ((q.getD 0 q0).right), .int .i64 ((q.getD 0 q0).wrong)]] (.int .i64 ((q.getD 0 q0).kind)),
        0 ≤ (0 : Int),
        (p.map encQ)[0]? = some (encQ (p.getD 0 q0)),
        FnF Try.prog 44 true [.agg [.int .i64 ((p.getD 0 q0).kind), .int .i64 ((p.getD 0 q0).right), .int .i64 ((p.getD 0 q0).wrong)]] (.int .i64 ((p.getD 0 q0).kind)),
        (.bool (decide (((q.getD 0 q0).kind) < ((p.getD 0 q0).kind))) : AV) = (.bool false : AV),
        0 ≤ (0 : Int),
        (p.map encQ)[0]? = some (encQ (p.getD 0 q0)),
        0 ≤ (0 : Int),
        (q.map encQ)[0]? = some (encQ (q.getD 0 q0)),
        FnF Try.prog 42 true [.agg [.int .i64 ((p.getD 0 q0).kind), .int .i64 ((p.getD 0 q0).right), .int .i64 ((p.getD 0 q0).wrong)], .agg [.int .i64 ((q.getD 0 q0).kind), .int .i64 ((q.getD 0 q0).right), .int .i64 ((q.getD 0 q0).wrong)]] (encQ (sumQ (p.getD 0 q0) (q.getD 0 q0))),
        ((acc.map encQ).take acc.length ++ [encQ (sumQ (p.getD 0 q0) (q.getD 0 q0))] : List AV) = (acc ++ [sumQ (p.getD 0 q0) (q.getD 0 q0)]).map encQ,
        (2 * (acc.length + ([encQ (sumQ (p.getD 0 q0) (q.getD 0 q0))] : List AV).length) + 1024) * 24 ≤ 2 ^ 48,
        ∀ y ∈ ([encQ (sumQ (p.getD 0 q0) (q.getD 0 q0))] : List AV), (cellsOf y).length = 3 ∧ ∀ c ∈ cellsOf y, isCell c = true,
        (.list (((p.map encQ).take (p.map encQ).length).drop 1) : AV) = (.list ((p.drop 1).map encQ) : AV),
        0 ≤ (1 : Int) ∧ (1 : Int) ≤ ((p.map encQ).length : Int) ∧ ((p.map encQ).length : Int) ≤ ((p.map encQ : List AV).length : Int),
        ∀ x ∈ (p.map encQ : List AV), (cellsOf x).length = 3,
        (.list (((q.map encQ).take (q.map encQ).length).drop 1) : AV) = (.list ((q.drop 1).map encQ) : AV),
        0 ≤ (1 : Int) ∧ (1 : Int) ≤ ((q.map encQ).length : Int) ∧ ((q.map encQ).length : Int) ≤ ((q.map encQ : List AV).length : Int),
        ∀ x ∈ (q.map encQ : List AV), (cellsOf x).length = 3]) (by kernel_rfl) ⟨(by simp [belowV, idsOf, idsL, encQ]), below_ids (ids_map (fun _ => rfl) _), len_map, (eF (by omega)), (by decide), elemN (by omega) (by omega), od_key (x := (q.getD 0 q0)), (by decide), elemN (by omega) (by omega), od_key (x := (p.getD 0 q0)), (bF q5), (by decide), elemN (by omega) (by omega), (by decide), elemN (by omega) (by omega), od_sum (x := (p.getD 0 q0)) (y := (q.getD 0 q0)) (hbp _ (getD_mem (by omega))) (hbq _ (getD_mem (by omega))), rowApp rfl, (by simp; omega), (by simp [cellsOf, isCell, encQ]), slice_map0, (by first | (simp; done) | omega | (simp; omega)), cells_map (f := encQ) (fun _ => rfl) _, slice_map0, (by first | (simp; done) | omega | (simp; omega)), cells_map (f := encQ) (fun _ => rfl) _, trivial⟩ ?_
              refine blk_n ?_
              refine blk_n ?_
              exact loop_g [0, 1, 2, 3, 8, 9] 2 ((p.drop 1).length + (q.drop 1).length) (by simp; omega) rfl (s' := (stX .any 87 [(0, .list ((p.drop 1).map encQ)), (1, .list ((q.drop 1).map encQ)), (2, .func (.func 44) [] []), (3, .func (.func 42) [] []), (8, .nilslice), (9, .slice 1 0 (acc.length + 1) 0)] [.row 3 [encQ e0] 0, .row 3 ((acc ++ [sumQ (p.getD 0 q0) (q.getD 0 q0)]).map encQ) 0])) (ob := [∀ e ∈ ([encQ e0] : List AV), idsOf e = [],
        ∀ e ∈ ((acc ++ [sumQ (p.getD 0 q0) (q.getD 0 q0)]).map encQ : List AV), idsOf e = []]) (by kernel_rfl) ⟨(by simp [idsOf, idsL, encQ]), ids_map (fun _ => rfl) _, trivial⟩ (.inr (⟨(p.drop 1), (q.drop 1), (acc ++ [sumQ (p.getD 0 q0) (q.getD 0 q0)]), e0, fun x hx => hbp x (List.mem_of_mem_drop hx), fun x hx => hbq x (List.mem_of_mem_drop hx), (by rw [← hm, merge_b (p := p) (q := q) (by omega) (by omega) (by omega), List.append_assoc]; rfl), (by simp; omega), rfl, by first | rfl | (rw [List.length_append]; rfl)⟩))
        · refine Ok.evf (by kernel_rfl) 400 [.d, .v (.int .i64 (q.length : Int)), .v (.bool false), .d, .d, .v (.int .i64 (p.length : Int)), .v (.bool false), .d, .d, .d, .d, .d, .d, .d, .d, .d, .d, .d, .d, .d, .d, .d] [0, 1, 2, 3, 8, 9, 31] 2 (st' := (stX .any 87 [(0, .list (p.map encQ)), (1, .list (q.map encQ)), (2, .func (.func 44) [] []), (3, .func (.func 42) [] []), (8, .nilslice), (9, .slice 1 0 acc.length 0), (31, .bool false)] [.row 3 [encQ e0] 0, .row 3 (acc.map encQ) 0])) (e := .normal) (ob := [∀ e ∈ ([encQ e0] : List AV), belowV 2 e = true,
        ∀ e ∈ (acc.map encQ : List AV), belowV 2 e = true,
        (.int .i64 (((q.map encQ).length : Nat) : Int) : AV) = (.int .i64 (q.length : Int) : AV),
        (.bool ((q.length : Int) == 0) : AV) = (.bool false : AV),
        (.int .i64 (((p.map encQ).length : Nat) : Int) : AV) = (.int .i64 (p.length : Int) : AV),
        (.bool (decide ((p.length : Int) > 0)) : AV) = (.bool false : AV)]) (by kernel_rfl) ⟨(by simp [belowV, idsOf, idsL, encQ]), below_ids (ids_map (fun _ => rfl) _), len_map, (eF q2), len_map, (bF q3), trivial⟩ ?_
          refine seq_n ?_
          refine Ok.evf (by kernel_rfl) 400 [.d, .d, .v (.int .i64 (p.length : Int)), .v (.bool true), .d, .d, .d, .d, .d, .d, .d, .d, .d, .d, .d, .d, .d, .d, .d, .d, .d, .e (encQ (q.getD 0 q0)), .d, .d, .r ((acc ++ [(q.getD 0 q0)]).map encQ), .d, .v (.list ((q.drop 1).map encQ)), .d, .d] [0, 1, 2, 3, 8, 9] 2 (st' := (stX .any 87 [(0, .list (p.map encQ)), (1, .list ((q.drop 1).map encQ)), (2, .func (.func 44) [] []), (3, .func (.func 42) [] []), (8, .nilslice), (9, .slice 1 0 (acc.length + 1) 1)] [.row 3 [encQ e0] 0, .row 3 ((acc ++ [(q.getD 0 q0)]).map encQ) 1])) (e := .normal) (ob := [∀ e ∈ ([encQ e0] : List AV), belowV 2 e = true,
        ∀ e ∈ ((acc ++ [(q.getD 0 q0)]).map encQ : List AV), belowV 2 e = true,
        (.int .i64 (((p.map encQ).length : Nat) : Int) : AV) = (.int .i64 (p.length : Int) : AV),
        (.bool ((p.length : Int) == 0) : AV) = (.bool true : AV),
        0 ≤ (0 : Int),
        (q.map encQ)[0]? = some (encQ (q.getD 0 q0)),
        ((acc.map encQ).take acc.length ++ [.agg [.int .i64 ((q.getD 0 q0).kind), .int .i64 ((q.getD 0 q0).right), .int .i64 ((q.getD 0 q0).wrong)]] : List AV) = (acc ++ [(q.getD 0 q0)]).map encQ,
        (2 * (acc.length + ([.agg [.int .i64 ((q.getD 0 q0).kind), .int .i64 ((q.getD 0 q0).right), .int .i64 ((q.getD 0 q0).wrong)]] : List AV).length) + 1024) * 24 ≤ 2 ^ 48,
        ∀ y ∈ ([.agg [.int .i64 ((q.getD 0 q0).kind), .int .i64 ((q.getD 0 q0).right), .int .i64 ((q.getD 0 q0).wrong)]] : List AV), (cellsOf y).length = 3 ∧ ∀ c ∈ cellsOf y, isCell c = true,
        (.list (((q.map encQ).take (q.map encQ).length).drop 1) : AV) = (.list ((q.drop 1).map encQ) : AV),
        0 ≤ (1 : Int) ∧ (1 : Int) ≤ ((q.map encQ).length : Int) ∧ ((q.map encQ).length : Int) ≤ ((q.map encQ : List AV).length : Int),
        ∀ x ∈ (q.map encQ : List AV), (cellsOf x).length = 3]) (by kernel_rfl) ⟨(by simp [belowV, idsOf, idsL, encQ]), below_ids (ids_map (fun _ => rfl) _), len_map, (eT (by omega)), (by decide), elemN (by omega) (by omega), rowApp rfl, (by simp; omega), (by simp [cellsOf, isCell, encQ]), slice_map0, (by first | (simp; done) | omega | (simp; omega)), cells_map (f := encQ) (fun _ => rfl) _, trivial⟩ ?_
          refine blk_n ?_
          refine blk_n ?_
          exact loop_g [0, 1, 2, 3, 8, 9] 2 ((p).length + (q.drop 1).length) (by simp; omega) rfl (s' := (stX .any 87 [(0, .list (p.map encQ)), (1, .list ((q.drop 1).map encQ)), (2, .func (.func 44) [] []), (3, .func (.func 42) [] []), (8, .nilslice), (9, .slice 1 0 (acc.length + 1) 0)] [.row 3 [encQ e0] 0, .row 3 ((acc ++ [(q.getD 0 q0)]).map encQ) 0])) (ob := [∀ e ∈ ([encQ e0] : List AV), idsOf e = [],
        ∀ e ∈ ((acc ++ [(q.getD 0 q0)]).map encQ : List AV), idsOf e = []]) (by kernel_rfl) ⟨(by simp [idsOf, idsL, encQ]), ids_map (fun _ => rfl) _, trivial⟩ (.inr (⟨p, (q.drop 1), (acc ++ [q.getD 0 q0]), e0, hbp, fun x hx => hbq x (List.mem_of_mem_drop hx), (by rw [← hm, merge_r (p := p) (q := q) (by omega) (by omega), List.append_assoc]; rfl), (by simp; omega), rfl, by first | rfl | (rw [List.length_append]; rfl)⟩))
    · refine Ok.evf (by kernel_rfl) 400 [.d, .v (.int .i64 (p.length : Int)), .d, .v (.int .i64 (q.length : Int)), .v (.int .i64 ((p.length : Int) + (q.length : Int))), .v (.bool false)] [0, 1, 2, 3, 8, 9, 15] 2 (st' := (stX .any 87 [(0, .list (p.map encQ)), (1, .list (q.map encQ)), (2, .func (.func 44) [] []), (3, .func (.func 42) [] []), (8, .nilslice), (9, .slice 1 0 acc.length 0), (15, .bool false)] [.row 3 [encQ e0] 0, .row 3 (acc.map encQ) 0])) (e := .normal) (ob := [∀ e ∈ ([encQ e0] : List AV), belowV 2 e = true,
        ∀ e ∈ (acc.map encQ : List AV), belowV 2 e = true,
        (.int .i64 (((p.map encQ).length : Nat) : Int) : AV) = (.int .i64 (p.length : Int) : AV),
        (.int .i64 (((q.map encQ).length : Nat) : Int) : AV) = (.int .i64 (q.length : Int) : AV),
        (.int .i64 (IntKind.wrap .i64 ((p.length : Int) + (q.length : Int))) : AV) = (.int .i64 ((p.length : Int) + (q.length : Int)) : AV),
        (.bool (decide (((p.length : Int) + (q.length : Int)) > 0)) : AV) = (.bool false : AV)]) (by kernel_rfl) ⟨(by simp [belowV, idsOf, idsL, encQ]), below_ids (ids_map (fun _ => rfl) _), len_map, len_map, iW (w64 (by omega) (by omega)), (bF q1), trivial⟩ ?_
      refine seq_n ?_
      refine Ok.evf (by kernel_rfl) 400 [.d] [8, 9] 2 (st' := (stX .any 87 [(8, .nilslice), (9, .slice 1 0 acc.length 0)] [.row 3 [encQ e0] 0, .row 3 (acc.map encQ) 0])) (e := (.exit 0)) (ob := [∀ e ∈ ([encQ e0] : List AV), belowV 2 e = true,
        ∀ e ∈ (acc.map encQ : List AV), belowV 2 e = true]) (by kernel_rfl) ⟨(by simp [belowV, idsOf, idsL, encQ]), below_ids (ids_map (fun _ => rfl) _), trivial⟩ ?_
      refine seq_e ?_
      refine loopg_e ?_
      refine blkQ_here ?_
      refine seq_n ?_
      refine Ok.evf (by kernel_rfl) 400 [.d, .d] [8] 2 (st' := (stX .any 87 [(8, .slice 1 0 acc.length 0)] [.row 3 [encQ e0] 0, .row 3 (acc.map encQ) 0])) (e := .ret) (ob := [∀ e ∈ ([encQ e0] : List AV), belowV 2 e = true,
        ∀ e ∈ (acc.map encQ : List AV), belowV 2 e = true]) (by kernel_rfl) ⟨(by simp [belowV, idsOf, idsL, encQ]), below_ids (ids_map (fun _ => rfl) _), trivial⟩ ?_
      exact ⟨.inr rfl, finF_of (ob := [((acc.map encQ : List AV).drop 0).take acc.length = (mergeF a b).map encQ,
        ∀ e ∈ (acc.map encQ : List AV), plainE e]) (by kernel_rfl) ⟨(by first | (rw [← hm, show p = [] from List.length_eq_zero_iff.1 (by omega), show q = [] from List.length_eq_zero_iff.1 (by omega), merge_nil]; rfl) | (rw [rowOut rfl, ← hm, show p = [] from List.length_eq_zero_iff.1 (by omega), show q = [] from List.length_eq_zero_iff.1 (by omega), merge_nil, List.append_nil])), pl_map (fun _ => rfl) (fun _ => rfl) _, trivial⟩⟩

theorem od_mergeM {a b : List An} (ha : ∀ x ∈ a, BdQ x) (hb : ∀ x ∈ b, BdQ x) (hab : a.length + b.length ≤ 2000000) (hne : mergeF a b ≠ []) : FnM Try.prog 43 [] [.list (a.map encQ), .list (b.map encQ), .func (.func 44) [] [], .func (.func 42) [] []] (.slice 0 0 ((mergeF a b).length) 0) [.row 3 ((mergeF a b).map encQ) 0] := by
  refine fn_walk Try.func43 (by kernel_rfl) (by kernel_rfl) (by kernel_rfl) (st := (stX (.tuple []) 87 [(0, .list (a.map encQ)), (1, .list (b.map encQ)), (2, .func (.func 44) [] []), (3, .func (.func 42) [] [])] [])) rfl ?_
  refine Ok.seqP [] (by kernel_rfl) ?_
  refine Ok.evf (by kernel_rfl) 400 [.d] [0, 1, 2, 3, 8, 9] 0 (st' := (stX .any 87 [(0, .list (a.map encQ)), (1, .list (b.map encQ)), (2, .func (.func 44) [] []), (3, .func (.func 42) [] []), (8, .nilslice), (9, .tuple [])] [])) (e := .normal) (ob := []) (by kernel_rfl) trivial ?_
  refine seq_n ?_
  refine Ok.seqP [true] (by kernel_rfl) ?_
  refine Ok.evf (by kernel_rfl) 400 [.d] [0, 1, 2, 3, 8, 9] 0 (st' := (stX .any 87 [(0, .list (a.map encQ)), (1, .list (b.map encQ)), (2, .func (.func 44) [] []), (3, .func (.func 42) [] []), (8, .nilslice), (9, .nilslice)] [])) (e := .normal) (ob := []) (by kernel_rfl) trivial ?_
  refine seq_n ?_
  refine Ok.seqP [true, true] (by kernel_rfl) ?_
  refine Ok.blockP [true, true, false] 0 (by kernel_rfl) ?_
  refine Ok.loopB [true, true, false, false] (by kernel_rfl) (fun m_ s_ => (∃ (p : List An) (q : List An), (∀ x ∈ p, BdQ x) ∧ (∀ x ∈ q, BdQ x) ∧ (mergeF p q = mergeF a b) ∧ ((p).length + (q).length ≤ 2000000) ∧ m_ = (p).length + (q).length ∧ s_ = (stX .any 87 [(0, .list (p.map encQ)), (1, .list (q.map encQ)), (2, .func (.func 44) [] []), (3, .func (.func 42) [] []), (8, .nilslice), (9, .nilslice)] [])) ∨ (∃ (p : List An) (q : List An) (acc : List An) (e0 : An), (∀ x ∈ p, BdQ x) ∧ (∀ x ∈ q, BdQ x) ∧ (acc ++ mergeF p q = mergeF a b) ∧ ((acc).length + (p).length + (q).length ≤ 2000000) ∧ m_ = (p).length + (q).length ∧ s_ = (stX .any 87 [(0, .list (p.map encQ)), (1, .list (q.map encQ)), (2, .func (.func 44) [] []), (3, .func (.func 42) [] []), (8, .nilslice), (9, .slice 1 0 acc.length 0)] [.row 3 [encQ e0] 0, .row 3 (acc.map encQ) 0]))) ((a).length + (b).length) (.inl (⟨a, b, ha, hb, rfl, hab, rfl, rfl⟩)) ?_
  rintro m_ s_ (⟨p, q, hbp, hbq, hm, hn, rfl, rfl⟩ | ⟨p, q, acc, e0, hbp, hbq, hm, hn, rfl, rfl⟩)
  · refine Ok.seqP [true, true, false, false, false] (by kernel_rfl) ?_
    refine Ok.seqP [true, true, false, false, false, false] (by kernel_rfl) ?_
    by_cases q1 : ((p.length : Int) + (q.length : Int)) > 0
    · refine Ok.evf (by kernel_rfl) 400 [.d, .v (.int .i64 (p.length : Int)), .d, .v (.int .i64 (q.length : Int)), .v (.int .i64 ((p.length : Int) + (q.length : Int))), .v (.bool true)] [0, 1, 2, 3, 8, 9, 15] 0 (st' := (stX .any 87 [(0, .list (p.map encQ)), (1, .list (q.map encQ)), (2, .func (.func 44) [] []), (3, .func (.func 42) [] []), (8, .nilslice), (9, .nilslice), (15, .bool true)] [])) (e := .normal) (ob := [(.int .i64 (((p.map encQ).length : Nat) : Int) : AV) = (.int .i64 (p.length : Int) : AV),
        (.int .i64 (((q.map encQ).length : Nat) : Int) : AV) = (.int .i64 (q.length : Int) : AV),
        (.int .i64 (IntKind.wrap .i64 ((p.length : Int) + (q.length : Int))) : AV) = (.int .i64 ((p.length : Int) + (q.length : Int)) : AV),
        (.bool (decide (((p.length : Int) + (q.length : Int)) > 0)) : AV) = (.bool true : AV)]) (by kernel_rfl) ⟨len_map, len_map, iW (w64 (by omega) (by omega)), (bT q1), trivial⟩ ?_
      refine seq_n ?_
      refine Ok.evf (by kernel_rfl) 400 [.d] [0, 1, 2, 3, 8, 9] 0 (st' := (stX .any 87 [(0, .list (p.map encQ)), (1, .list (q.map encQ)), (2, .func (.func 44) [] []), (3, .func (.func 42) [] []), (8, .nilslice), (9, .nilslice)] [])) (e := .normal) (ob := []) (by kernel_rfl) trivial ?_
      refine seq_n ?_
      refine Ok.blockP [true, true, false, false, false, true] 1 (by kernel_rfl) ?_
      refine Ok.blockP [true, true, false, false, false, true, false] 2 (by kernel_rfl) ?_
      refine Ok.seqP [true, true, false, false, false, true, false, false] (by kernel_rfl) ?_
      by_cases q2 : (q.length : Int) = 0
      · refine Ok.evf (by kernel_rfl) 400 [.d, .v (.int .i64 (q.length : Int)), .v (.bool true), .d, .d, .d, .d, .d, .d, .d, .d, .d, .d, .d, .d, .d, .d, .d, .d, .d, .d, .d] [0, 1, 2, 3, 8, 9, 31] 0 (st' := (stX .any 87 [(0, .list (p.map encQ)), (1, .list (q.map encQ)), (2, .func (.func 44) [] []), (3, .func (.func 42) [] []), (8, .nilslice), (9, .nilslice), (31, .bool true)] [])) (e := .normal) (ob := [(.int .i64 (((q.map encQ).length : Nat) : Int) : AV) = (.int .i64 (q.length : Int) : AV),
        (.bool ((q.length : Int) == 0) : AV) = (.bool true : AV)]) (by kernel_rfl) ⟨len_map, (eT q2), trivial⟩ ?_
        refine seq_n ?_
        refine Ok.evf (by kernel_rfl) 400 [.d, .d, .d, .e (encQ (p.getD 0 q0)), .d, .d, .d, .d, .v (.list ((p.drop 1).map encQ)), .d, .d] [0, 1, 2, 3, 8, 9] 2 (st' := (stX .any 87 [(0, .list ((p.drop 1).map encQ)), (1, .list (q.map encQ)), (2, .func (.func 44) [] []), (3, .func (.func 42) [] []), (8, .nilslice), (9, .slice 1 0 1 0)] [.row 3 [.agg [.int .i64 ((p.getD 0 q0).kind), .int .i64 ((p.getD 0 q0).right), .int .i64 ((p.getD 0 q0).wrong)]] 0, .row 3 [.agg [.int .i64 ((p.getD 0 q0).kind), .int .i64 ((p.getD 0 q0).right), .int .i64 ((p.getD 0 q0).wrong)]] 0])) (e := .normal) (ob := [∀ e ∈ ([.agg [.int .i64 ((p.getD 0 q0).kind), .int .i64 ((p.getD 0 q0).right), .int .i64 ((p.getD 0 q0).wrong)]] : List AV), belowV 2 e = true,
        ∀ e ∈ ([.agg [.int .i64 ((p.getD 0 q0).kind), .int .i64 ((p.getD 0 q0).right), .int .i64 ((p.getD 0 q0).wrong)]] : List AV), belowV 2 e = true,
        0 ≤ (0 : Int),
        (p.map encQ)[0]? = some (encQ (p.getD 0 q0)),
        (2 * ([.agg [.int .i64 ((p.getD 0 q0).kind), .int .i64 ((p.getD 0 q0).right), .int .i64 ((p.getD 0 q0).wrong)]] : List AV).length + 1024) * 24 ≤ 2 ^ 48,
        ∀ y ∈ ([.agg [.int .i64 ((p.getD 0 q0).kind), .int .i64 ((p.getD 0 q0).right), .int .i64 ((p.getD 0 q0).wrong)]] : List AV), (cellsOf y).length = 3 ∧ ∀ c ∈ cellsOf y, isCell c = true,
        (.list (((p.map encQ).take (p.map encQ).length).drop 1) : AV) = (.list ((p.drop 1).map encQ) : AV),
        0 ≤ (1 : Int) ∧ (1 : Int) ≤ ((p.map encQ).length : Int) ∧ ((p.map encQ).length : Int) ≤ ((p.map encQ : List AV).length : Int),
        ∀ x ∈ (p.map encQ : List AV), (cellsOf x).length = 3]) (by kernel_rfl) ⟨(by simp [belowV, idsOf, idsL, encQ]), (by simp [belowV, idsOf, idsL, encQ]), (by decide), elemN (by omega) (by omega), (by simp), (by simp [cellsOf, isCell, encQ]), slice_map0, (by first | (simp; done) | omega | (simp; omega)), cells_map (f := encQ) (fun _ => rfl) _, trivial⟩ ?_
        refine blk_n ?_
        refine blk_n ?_
        exact loop_g [0, 1, 2, 3, 8, 9] 2 ((p.drop 1).length + (q).length) (by simp; omega) rfl (s' := (stX .any 87 [(0, .list ((p.drop 1).map encQ)), (1, .list (q.map encQ)), (2, .func (.func 44) [] []), (3, .func (.func 42) [] []), (8, .nilslice), (9, .slice 1 0 1 0)] [.row 3 [.agg [.int .i64 ((p.getD 0 q0).kind), .int .i64 ((p.getD 0 q0).right), .int .i64 ((p.getD 0 q0).wrong)]] 0, .row 3 [.agg [.int .i64 ((p.getD 0 q0).kind), .int .i64 ((p.getD 0 q0).right), .int .i64 ((p.getD 0 q0).wrong)]] 0])) (ob := [∀ e ∈ ([.agg [.int .i64 ((p.getD 0 q0).kind), .int .i64 ((p.getD 0 q0).right), .int .i64 ((p.getD 0 q0).wrong)]] : List AV), idsOf e = [],
        ∀ e ∈ ([.agg [.int .i64 ((p.getD 0 q0).kind), .int .i64 ((p.getD 0 q0).right), .int .i64 ((p.getD 0 q0).wrong)]] : List AV), idsOf e = []]) (by kernel_rfl) ⟨(by simp [idsOf, idsL, encQ]), (by simp [idsOf, idsL, encQ]), trivial⟩ (.inr (⟨(p.drop 1), q, ([p.getD 0 q0]), (p.getD 0 q0), fun x hx => hbp x (List.mem_of_mem_drop hx), hbq, (by rw [← hm, merge_l (p := p) (q := q) (by omega) (by omega)]; rfl), (by simp; omega), rfl, by first | rfl | (rw [List.length_append]; rfl)⟩))
      · by_cases q3 : (p.length : Int) > 0
        · by_cases q4 : ((p.getD 0 q0).kind) < ((q.getD 0 q0).kind)
          · refine Ok.evf (by kernel_rfl) 400 [.d, .v (.int .i64 (q.length : Int)), .v (.bool false), .d, .d, .v (.int .i64 (p.length : Int)), .v (.bool true), .d, .d, .d, .e (encQ (p.getD 0 q0)), .d, .f true (.int .i64 ((p.getD 0 q0).kind)), .d, .d, .e (encQ (q.getD 0 q0)), .d, .f true (.int .i64 ((q.getD 0 q0).kind)), .v (.bool true), .d, .d, .d] [0, 1, 2, 3, 8, 9, 31] 0 (st' := (stX .any 87 [(0, .list (p.map encQ)), (1, .list (q.map encQ)), (2, .func (.func 44) [] []), (3, .func (.func 42) [] []), (8, .nilslice), (9, .nilslice), (31, .bool true)] [])) (e := .normal) (ob := [(.int .i64 (((q.map encQ).length : Nat) : Int) : AV) = (.int .i64 (q.length : Int) : AV),
        (.bool ((q.length : Int) == 0) : AV) = (.bool false : AV),
        (.int .i64 (((p.map encQ).length : Nat) : Int) : AV) = (.int .i64 (p.length : Int) : AV),
        (.bool (decide ((p.length : Int) > 0)) : AV) = (.bool true : AV),
        0 ≤ (0 : Int),
        (p.map encQ)[0]? = some (encQ (p.getD 0 q0)),
        FnF Try.prog 44 true [.agg [.int .i64 ((p.getD 0 q0).kind), .int .i64 ((p.getD 0 q0).right), .int .i64 ((p.getD 0 q0).wrong)]] (.int .i64 ((p.getD 0 q0).kind)),
        0 ≤ (0 : Int),
        (q.map encQ)[0]? = some (encQ (q.getD 0 q0)),
        FnF Try.prog 44 true [.agg [.int .i64 ((q.getD 0 q0).kind), .int .i64 ((q.getD 0 q0).right), .int .i64 ((q.getD 0 q0).wrong)]] (.int .i64 ((q.getD 0 q0).kind)),
        (.bool (decide (((p.getD 0 q0).kind) < ((q.getD 0 q0).kind))) : AV) = (.bool true : AV)]) (by kernel_rfl) ⟨len_map, (eF q2), len_map, (bT q3), (by decide), elemN (by omega) (by omega), od_key (x := (p.getD 0 q0)), (by decide), elemN (by omega) (by omega), od_key (x := (q.getD 0 q0)), (bT q4), trivial⟩ ?_
            refine seq_n ?_
            refine Ok.evf (by kernel_rfl) 400 [.d, .d, .d, .e (encQ (p.getD 0 q0)), .d, .d, .d, .d, .v (.list ((p.drop 1).map encQ)), .d, .d] [0, 1, 2, 3, 8, 9] 2 (st' := (stX .any 87 [(0, .list ((p.drop 1).map encQ)), (1, .list (q.map encQ)), (2, .func (.func 44) [] []), (3, .func (.func 42) [] []), (8, .nilslice), (9, .slice 1 0 1 0)] [.row 3 [.agg [.int .i64 ((p.getD 0 q0).kind), .int .i64 ((p.getD 0 q0).right), .int .i64 ((p.getD 0 q0).wrong)]] 0, .row 3 [.agg [.int .i64 ((p.getD 0 q0).kind), .int .i64 ((p.getD 0 q0).right), .int .i64 ((p.getD 0 q0).wrong)]] 0])) (e := .normal) (ob := [∀ e ∈ ([.agg [.int .i64 ((p.getD 0 q0).kind), .int .i64 ((p.getD 0 q0).right), .int .i64 ((p.getD 0 q0).wrong)]] : List AV), belowV 2 e = true,
        ∀ e ∈ ([.agg [.int .i64 ((p.getD 0 q0).kind), .int .i64 ((p.getD 0 q0).right), .int .i64 ((p.getD 0 q0).wrong)]] : List AV), belowV 2 e = true,
        0 ≤ (0 : Int),
        (p.map encQ)[0]? = some (encQ (p.getD 0 q0)),
        (2 * ([.agg [.int .i64 ((p.getD 0 q0).kind), .int .i64 ((p.getD 0 q0).right), .int .i64 ((p.getD 0 q0).wrong)]] : List AV).length + 1024) * 24 ≤ 2 ^ 48,
        ∀ y ∈ ([.agg [.int .i64 ((p.getD 0 q0).kind), .int .i64 ((p.getD 0 q0).right), .int .i64 ((p.getD 0 q0).wrong)]] : List AV), (cellsOf y).length = 3 ∧ ∀ c ∈ cellsOf y, isCell c = true,
        (.list (((p.map encQ).take (p.map encQ).length).drop 1) : AV) = (.list ((p.drop 1).map encQ) : AV),
        0 ≤ (1 : Int) ∧ (1 : Int) ≤ ((p.map encQ).length : Int) ∧ ((p.map encQ).length : Int) ≤ ((p.map encQ : List AV).length : Int),
        ∀ x ∈ (p.map encQ : List AV), (cellsOf x).length = 3]) (by kernel_rfl) ⟨(by simp [belowV, idsOf, idsL, encQ]), (by simp [belowV, idsOf, idsL, encQ]), (by decide), elemN (by omega) (by omega), (by simp), (by simp [cellsOf, isCell, encQ]), slice_map0, (by first | (simp; done) | omega | (simp; omega)), cells_map (f := encQ) (fun _ => rfl) _, trivial⟩ ?_
            refine blk_n ?_
            refine blk_n ?_
            exact loop_g [0, 1, 2, 3, 8, 9] 2 ((p.drop 1).length + (q).length) (by simp; omega) rfl (s' := (stX .any 87 [(0, .list ((p.drop 1).map encQ)), (1, .list (q.map encQ)), (2, .func (.func 44) [] []), (3, .func (.func 42) [] []), (8, .nilslice), (9, .slice 1 0 1 0)] [.row 3 [.agg [.int .i64 ((p.getD 0 q0).kind), .int .i64 ((p.getD 0 q0).right), .int .i64 ((p.getD 0 q0).wrong)]] 0, .row 3 [.agg [.int .i64 ((p.getD 0 q0).kind), .int .i64 ((p.getD 0 q0).right), .int .i64 ((p.getD 0 q0).wrong)]] 0])) (ob := [∀ e ∈ ([.agg [.int .i64 ((p.getD 0 q0).kind), .int .i64 ((p.getD 0 q0).right), .int .i64 ((p.getD 0 q0).wrong)]] : List AV), idsOf e = [],
        ∀ e ∈ ([.agg [.int .i64 ((p.getD 0 q0).kind), .int .i64 ((p.getD 0 q0).right), .int .i64 ((p.getD 0 q0).wrong)]] : List AV), idsOf e = []]) (by kernel_rfl) ⟨(by simp [idsOf, idsL, encQ]), (by simp [idsOf, idsL, encQ]), trivial⟩ (.inr (⟨(p.drop 1), q, ([p.getD 0 q0]), (p.getD 0 q0), fun x hx => hbp x (List.mem_of_mem_drop hx), hbq, (by rw [← hm, merge_l (p := p) (q := q) (by omega) (by omega)]; rfl), (by simp; omega), rfl, by first | rfl | (rw [List.length_append]; rfl)⟩))
          · refine Ok.evf (by kernel_rfl) 400 [.d, .v (.int .i64 (q.length : Int)), .v (.bool false), .d, .d, .v (.int .i64 (p.length : Int)), .v (.bool true), .d, .d, .d, .e (encQ (p.getD 0 q0)), .d, .f true (.int .i64 ((p.getD 0 q0).kind)), .d, .d, .e (encQ (q.getD 0 q0)), .d, .f true (.int .i64 ((q.getD 0 q0).kind)), .v (.bool false), .d, .d, .d] [0, 1, 2, 3, 8, 9, 31] 0 (st' := (stX .any 87 [(0, .list (p.map encQ)), (1, .list (q.map encQ)), (2, .func (.func 44) [] []), (3, .func (.func 42) [] []), (8, .nilslice), (9, .nilslice), (31, .bool false)] [])) (e := .normal) (ob := [(.int .i64 (((q.map encQ).length : Nat) : Int) : AV) = (.int .i64 (q.length : Int) : AV),
        (.bool ((q.length : Int) == 0) : AV) = (.bool false : AV),
        (.int .i64 (((p.map encQ).length : Nat) : Int) : AV) = (.int .i64 (p.length : Int) : AV),
        (.bool (decide ((p.length : Int) > 0)) : AV) = (.bool true : AV),
        0 ≤ (0 : Int),
        (p.map encQ)[0]? = some (encQ (p.getD 0 q0)),
        FnF Try.prog 44 true [.agg [.int .i64 ((p.getD 0 q0).kind), .int .i64 ((p.getD 0 q0).right), .int .i64 ((p.getD 0 q0).wrong)]] (.int .i64 ((p.getD 0 q0).kind)),
        0 ≤ (0 : Int),
        (q.map encQ)[0]? = some (encQ (q.getD 0 q0)),
        FnF Try.prog 44 true [.agg [.int .i64 ((q.getD 0 q0).kind), .int .i64 ((q.getD 0 q0).right), .int .i64 ((q.getD 0 q0).wrong)]] (.int .i64 ((q.getD 0 q0).kind)),
        (.bool (decide (((p.getD 0 q0).kind) < ((q.getD 0 q0).kind))) : AV) = (.bool false : AV)]) (by kernel_rfl) ⟨len_map, (eF q2), len_map, (bT q3), (by decide), elemN (by omega) (by omega), od_key (x := (p.getD 0 q0)), (by decide), elemN (by omega) (by omega), od_key (x := (q.getD 0 q0)), (bF q4), trivial⟩ ?_
            refine seq_n ?_
            by_cases q5 : ((q.getD 0 q0).kind) < ((p.getD 0 q0).kind)
            · refine Ok.evf (by kernel_rfl) 400 [.d, .d, .v (.int .i64 (p.length : Int)), .v (.bool false), .d, .d, .d, .e (encQ (q.getD 0 q0)), .d, .f true (.int .i64 ((q.getD 0 q0).kind)), .d, .d, .e (encQ (p.getD 0 q0)), .d, .f true (.int .i64 ((p.getD 0 q0).kind)), .v (.bool true), .d, .d, .d, .d, .d, .e (encQ (q.getD 0 q0)), .d, .d, .d, .d, .v (.list ((q.drop 1).map encQ)), .d, .d] [0, 1, 2, 3, 8, 9] 2 (st' := (stX .any 87 [(0, .list (p.map encQ)), (1, .list ((q.drop 1).map encQ)), (2, .func (.func 44) [] []), (3, .func (.func 42) [] []), (8, .nilslice), (9, .slice 1 0 1 0)] [.row 3 [.agg [.int .i64 ((q.getD 0 q0).kind), .int .i64 ((q.getD 0 q0).right), .int .i64 ((q.getD 0 q0).wrong)]] 0, .row 3 [.agg [.int .i64 ((q.getD 0 q0).kind), .int .i64 ((q.getD 0 q0).right), .int .i64 ((q.getD 0 q0).wrong)]] 0])) (e := .normal) (ob := [∀ e ∈ ([.agg [.int .i64 ((q.getD 0 q0).kind), .int .i64 ((q.getD 0 q0).right), .int .i64 ((q.getD 0 q0).wrong)]] : List AV), belowV 2 e = true,
        ∀ e ∈ ([.agg [.int .i64 ((q.getD 0 q0).kind), .int .i64 ((q.getD 0 q0).right), .int .i64 ((q.getD 0 q0).wrong)]] : List AV), belowV 2 e = true,
        (.int .i64 (((p.map encQ).length : Nat) : Int) : AV) = (.int .i64 (p.length : Int) : AV),
        (.bool ((p.length : Int) == 0) : AV) = (.bool false : AV),
        0 ≤ (0 : Int),
        (q.map encQ)[0]? = some (encQ (q.getD 0 q0)),
        FnF Try.prog 44 true [.agg [.int .i64 ((q.getD 0 q0).kind), .int .i64 ((q.getD 0 q0).right), .int .i64 ((q.getD 0 q0).wrong)]] (.int .i64 ((q.getD 0 q0).kind)),
        0 ≤ (0 : Int),
        (p.map encQ)[0]? = some (encQ (p.getD 0 q0)),
        FnF Try.prog 44 true [.agg [.int .i64 ((p.getD 0 q0).kind), .int .i64 ((p.getD 0 q0).right), .int .i64 ((p.getD 0 q0).wrong)]] (.int .i64 ((p.getD 0 q0).kind)),
        (.bool (decide (((q.getD 0 q0).kind) < ((p.getD 0 q0).kind))) : AV) = (.bool true : AV),
        0 ≤ (0 : Int),
        (q.map encQ)[0]? = some (encQ (q.getD 0 q0)),
        (2 * ([.agg [.int .i64 ((q.getD 0 q0).kind), .int .i64 ((q.getD 0 q0).right), .int .i64 ((q.getD 0 q0).wrong)]] : List AV).length + 1024) * 24 ≤ 2 ^ 48,
        ∀ y ∈ ([.agg [.int .i64 ((q.getD 0 q0).kind), .int .i64 ((q.getD 0 q0).right), .int .i64 ((q.getD 0 q0).wrong)]] : List AV), (cellsOf y).length = 3 ∧ ∀ c ∈ cellsOf y, isCell c = true,
        (.list (((q.map encQ).take (q.map encQ).length).drop 1) : AV) = (.list ((q.drop 1).map encQ) : AV),
        0 ≤ (1 : Int) ∧ (1 : Int) ≤ ((q.map encQ).length : Int) ∧ ((q.map encQ).length : Int) ≤ ((q.map encQ : List AV).length : Int),
        ∀ x ∈ (q.map encQ : List AV), (cellsOf x).length = 3]) (by kernel_rfl) ⟨(by simp [belowV, idsOf, idsL, encQ]), (by simp [belowV, idsOf, idsL, encQ]), len_map, (eF (by omega)), (by decide), elemN (by omega) (by omega), od_key (x := (q.getD 0 q0)), (by decide), elemN (by omega) (by omega), od_key (x := (p.getD 0 q0)), (bT q5), (by decide), elemN (by omega) (by omega), (by simp), (by simp [cellsOf, isCell, encQ]), slice_map0, (by first | (simp; done) | omega | (simp; omega)), cells_map (f := encQ) (fun _ => rfl) _, trivial⟩ ?_
              refine blk_n ?_
              refine blk_n ?_
              exact loop_g [0, 1, 2, 3, 8, 9] 2 ((p).length + (q.drop 1).length) (by simp; omega) rfl (s' := (stX .any 87 [(0, .list (p.map encQ)), (1, .list ((q.drop 1).map encQ)), (2, .func (.func 44) [] []), (3, .func (.func 42) [] []), (8, .nilslice), (9, .slice 1 0 1 0)] [.row 3 [.agg [.int .i64 ((q.getD 0 q0).kind), .int .i64 ((q.getD 0 q0).right), .int .i64 ((q.getD 0 q0).wrong)]] 0, .row 3 [.agg [.int .i64 ((q.getD 0 q0).kind), .int .i64 ((q.getD 0 q0).right), .int .i64 ((q.getD 0 q0).wrong)]] 0])) (ob := [∀ e ∈ ([.agg [.int .i64 ((q.getD 0 q0).kind), .int .i64 ((q.getD 0 q0).right), .int .i64 ((q.getD 0 q0).wrong)]] : List AV), idsOf e = [],
        ∀ e ∈ ([.agg [.int .i64 ((q.getD 0 q0).kind), .int .i64 ((q.getD 0 q0).right), .int .i64 ((q.getD 0 q0).wrong)]] : List AV), idsOf e = []]) (by kernel_rfl) ⟨(by simp [idsOf, idsL, encQ]), (by simp [idsOf, idsL, encQ]), trivial⟩ (.inr (⟨p, (q.drop 1), ([q.getD 0 q0]), (q.getD 0 q0), hbp, fun x hx => hbq x (List.mem_of_mem_drop hx), (by rw [← hm, merge_r (p := p) (q := q) (by omega) (by omega)]; rfl), (by simp; omega), rfl, by first | rfl | (rw [List.length_append]; rfl)⟩))
            · refine Ok.evf (by kernel_rfl) 400 [.d, .d, .v (.int .i64 (p.length : Int)), .v (.bool false), .d, .d, .d, .e (encQ (q.getD 0 q0)), .d, .f true (.int .i64 ((q.getD 0 q0).kind)), .d, .d, .e (encQ (p.getD 0 q0)), .d, .f true (.int .i64 ((p.getD 0 q0).kind)), .v (.bool false), .d, .d, .d, .d, .d, .d, .e (encQ (p.getD 0 q0)), .d, .d, .e (encQ (q.getD 0 q0)), .d, .f true (encQ (sumQ (p.getD 0 q0) (q.getD 0 q0))), .d, .d, .d, .v (.list ((p.drop 1).map encQ)), .d, .v (.list ((q.drop 1).map encQ)), .d, .d, .d] [0, 1, 2, 3, 8, 9] 2 (st' := (stX .any 87 [(0, .list ((p.drop 1).map encQ)), (1, .list ((q.drop 1).map encQ)), (2, .func (.func 44) [] []), (3, .func (.func 42) [] []), (8, .nilslice), (9, .slice 1 0 1 0)] [.row 3 [encQ (sumQ (p.getD 0 q0) (q.getD 0 q0))] 0, .row 3 [encQ (sumQ (p.getD 0 q0) (q.getD 0 q0))] 0])) (e := .normal) (ob := [∀ e ∈ ([encQ (sumQ (p.getD 0 q0) (q.getD 0 q0))] : List AV), belowV 2 e = true,
        ∀ e ∈ ([encQ (sumQ (p.getD 0 q0) (q.getD 0 q0))] : List AV), belowV 2 e = true,
        (.int .i64 (((p.map encQ).length : Nat) : Int) : AV) = (.int .i64 (p.length : Int) : AV),
        (.bool ((p.length : Int) == 0) : AV) = (.bool false : AV),
        0 ≤ (0 : Int),
        (q.map encQ)[0]? = some (encQ (q.getD 0 q0)),
        FnF Try.prog 44 true [.agg [.int .i64 ((q.getD 0 q0).kind), .int .i64 ((q.getD 0 q0).right), .int .i64 ((q.getD 0 q0).wrong)]] (.int .i64 ((q.getD 0 q0).kind)),
        0 ≤ (0 : Int),
        (p.map encQ)[0]? = some (encQ (p.getD 0 q0)),
        FnF Try.prog 44 true [.agg [.int .i64 ((p.getD 0 q0).kind), .int .i64 ((p.getD 0 q0).right), .int .i64 ((p.getD 0 q0).wrong)]] (.int .i64 ((p.getD 0 q0).kind)),
        (.bool (decide (((q.getD 0 q0).kind) < ((p.getD 0 q0).kind))) : AV) = (.bool false : AV),
        0 ≤ (0 : Int),
        (p.map encQ)[0]? = some (encQ (p.getD 0 q0)),
        0 ≤ (0 : Int),
        (q.map encQ)[0]? = some (encQ (q.getD 0 q0)),
        FnF Try.prog 42 true [.agg [.int .i64 ((p.getD 0 q0).kind), .int .i64 ((p.getD 0 q0).right), .int .i64 ((p.getD 0 q0).wrong)], .agg [.int .i64 ((q.getD 0 q0).kind), .int .i64 ((q.getD 0 q0).right), .int .i64 ((q.getD 0 q0).wrong)]] (encQ (sumQ (p.getD 0 q0) (q.getD 0 q0))),
        (2 * ([encQ (sumQ (p.getD 0 q0) (q.getD 0 q0))] : List AV).length + 1024) * 24 ≤ 2 ^ 48,
        ∀ y ∈ ([encQ (sumQ (p.getD 0 q0) (q.getD 0 q0))] : List AV), (cellsOf y).length = 3 ∧ ∀ c ∈ cellsOf y, isCell c = true,
        (.list (((p.map encQ).take (p.map encQ).length).drop 1) : AV) = (.list ((p.drop 1).map encQ) : AV),
        0 ≤ (1 : Int) ∧ (1 : Int) ≤ ((p.map encQ).length : Int) ∧ ((p.map encQ).length : Int) ≤ ((p.map encQ : List AV).length : Int),
        ∀ x ∈ (p.map encQ : List AV), (cellsOf x).length = 3,
        (.list (((q.map encQ).take (q.map encQ).length).drop 1) : AV) = (.list ((q.drop 1).map encQ) : AV),
        0 ≤ (1 : Int) ∧ (1 : Int) ≤ ((q.map encQ).length : Int) ∧ ((q.map encQ).length : Int) ≤ ((q.map encQ : List AV).length : Int),
        ∀ x ∈ (q.map encQ : List AV), (cellsOf x).length = 3]) (by kernel_rfl) ⟨(by simp [belowV, idsOf, idsL, encQ]), (by simp [belowV, idsOf, idsL, encQ]), len_map, (eF (by omega)), (by decide), elemN (by omega) (by omega), od_key (x := (q.getD 0 q0)), (by decide), elemN (by omega) (by omega), od_key (x := (p.getD 0 q0)), (bF q5), (by decide), elemN (by omega) (by omega), (by decide), elemN (by omega) (by omega), od_sum (x := (p.getD 0 q0)) (y := (q.getD 0 q0)) (hbp _ (getD_mem (by omega))) (hbq _ (getD_mem (by omega))), (by simp), (by simp [cellsOf, isCell, encQ]), slice_map0, (by first | (simp; done) | omega | (simp; omega)), cells_map (f := encQ) (fun _ => rfl) _, slice_map0, (by first | (simp; done) | omega | (simp; omega)), cells_map (f := encQ) (fun _ => rfl) _, trivial⟩ ?_
              refine blk_n ?_
              refine blk_n ?_
              exact loop_g [0, 1, 2, 3, 8, 9] 2 ((p.drop 1).length + (q.drop 1).length) (by simp; omega) rfl (s' := (stX .any 87 [(0, .list ((p.drop 1).map encQ)), (1, .list ((q.drop 1).map encQ)), (2, .func (.func 44) [] []), (3, .func (.func 42) [] []), (8, .nilslice), (9, .slice 1 0 1 0)] [.row 3 [encQ (sumQ (p.getD 0 q0) (q.getD 0 q0))] 0, .row 3 [encQ (sumQ (p.getD 0 q0) (q.getD 0 q0))] 0])) (ob := [∀ e ∈ ([encQ (sumQ (p.getD 0 q0) (q.getD 0 q0))] : List AV), idsOf e = [],
        ∀ e ∈ ([encQ (sumQ (p.getD 0 q0) (q.getD 0 q0))] : List AV), idsOf e = []]) (by kernel_rfl) ⟨(by simp [idsOf, idsL, encQ]), (by simp [idsOf, idsL, encQ]), trivial⟩ (.inr (⟨(p.drop 1), (q.drop 1), ([sumQ (p.getD 0 q0) (q.getD 0 q0)]), (sumQ (p.getD 0 q0) (q.getD 0 q0)), fun x hx => hbp x (List.mem_of_mem_drop hx), fun x hx => hbq x (List.mem_of_mem_drop hx), (by rw [← hm, merge_b (p := p) (q := q) (by omega) (by omega) (by omega)]; rfl), (by simp; omega), rfl, by first | rfl | (rw [List.length_append]; rfl)⟩))
        · refine Ok.evf (by kernel_rfl) 400 [.d, .v (.int .i64 (q.length : Int)), .v (.bool false), .d, .d, .v (.int .i64 (p.length : Int)), .v (.bool false), .d, .d, .d, .d, .d, .d, .d, .d, .d, .d, .d, .d, .d, .d, .d] [0, 1, 2, 3, 8, 9, 31] 0 (st' := (stX .any 87 [(0, .list (p.map encQ)), (1, .list (q.map encQ)), (2, .func (.func 44) [] []), (3, .func (.func 42) [] []), (8, .nilslice), (9, .nilslice), (31, .bool false)] [])) (e := .normal) (ob := [(.int .i64 (((q.map encQ).length : Nat) : Int) : AV) = (.int .i64 (q.length : Int) : AV),
        (.bool ((q.length : Int) == 0) : AV) = (.bool false : AV),
        (.int .i64 (((p.map encQ).length : Nat) : Int) : AV) = (.int .i64 (p.length : Int) : AV),
        (.bool (decide ((p.length : Int) > 0)) : AV) = (.bool false : AV)]) (by kernel_rfl) ⟨len_map, (eF q2), len_map, (bF q3), trivial⟩ ?_
          refine seq_n ?_
          refine Ok.evf (by kernel_rfl) 400 [.d, .d, .v (.int .i64 (p.length : Int)), .v (.bool true), .d, .d, .d, .d, .d, .d, .d, .d, .d, .d, .d, .d, .d, .d, .d, .d, .d, .e (encQ (q.getD 0 q0)), .d, .d, .d, .d, .v (.list ((q.drop 1).map encQ)), .d, .d] [0, 1, 2, 3, 8, 9] 2 (st' := (stX .any 87 [(0, .list (p.map encQ)), (1, .list ((q.drop 1).map encQ)), (2, .func (.func 44) [] []), (3, .func (.func 42) [] []), (8, .nilslice), (9, .slice 1 0 1 0)] [.row 3 [.agg [.int .i64 ((q.getD 0 q0).kind), .int .i64 ((q.getD 0 q0).right), .int .i64 ((q.getD 0 q0).wrong)]] 0, .row 3 [.agg [.int .i64 ((q.getD 0 q0).kind), .int .i64 ((q.getD 0 q0).right), .int .i64 ((q.getD 0 q0).wrong)]] 0])) (e := .normal) (ob := [∀ e ∈ ([.agg [.int .i64 ((q.getD 0 q0).kind), .int .i64 ((q.getD 0 q0).right), .int .i64 ((q.getD 0 q0).wrong)]] : List AV), belowV 2 e = true,
        ∀ e ∈ ([.agg [.int .i64 ((q.getD 0 q0).kind), .int .i64 ((q.getD 0 q0).right), .int .i64 ((q.getD 0 q0).wrong)]] : List AV), belowV 2 e = true,
        (.int .i64 (((p.map encQ).length : Nat) : Int) : AV) = (.int .i64 (p.length : Int) : AV),
        (.bool ((p.length : Int) == 0) : AV) = (.bool true : AV),
        0 ≤ (0 : Int),
        (q.map encQ)[0]? = some (encQ (q.getD 0 q0)),
        (2 * ([.agg [.int .i64 ((q.getD 0 q0).kind), .int .i64 ((q.getD 0 q0).right), .int .i64 ((q.getD 0 q0).wrong)]] : List AV).length + 1024) * 24 ≤ 2 ^ 48,
        ∀ y ∈ ([.agg [.int .i64 ((q.getD 0 q0).kind), .int .i64 ((q.getD 0 q0).right), .int .i64 ((q.getD 0 q0).wrong)]] : List AV), (cellsOf y).length = 3 ∧ ∀ c ∈ cellsOf y, isCell c = true,
        (.list (((q.map encQ).take (q.map encQ).length).drop 1) : AV) = (.list ((q.drop 1).map encQ) : AV),
        0 ≤ (1 : Int) ∧ (1 : Int) ≤ ((q.map encQ).length : Int) ∧ ((q.map encQ).length : Int) ≤ ((q.map encQ : List AV).length : Int),
        ∀ x ∈ (q.map encQ : List AV), (cellsOf x).length = 3]) (by kernel_rfl) ⟨(by simp [belowV, idsOf, idsL, encQ]), (by simp [belowV, idsOf, idsL, encQ]), len_map, (eT (by omega)), (by decide), elemN (by omega) (by omega), (by simp), (by simp [cellsOf, isCell, encQ]), slice_map0, (by first | (simp; done) | omega | (simp; omega)), cells_map (f := encQ) (fun _ => rfl) _, trivial⟩ ?_
          refine blk_n ?_
          refine blk_n ?_
          exact loop_g [0, 1, 2, 3, 8, 9] 2 ((p).length + (q.drop 1).length) (by simp; omega) rfl (s' := (stX .any 87 [(0, .list (p.map encQ)), (1, .list ((q.drop 1).map encQ)), (2, .func (.func 44) [] []), (3, .func (.func 42) [] []), (8, .nilslice), (9, .slice 1 0 1 0)] [.row 3 [.agg [.int .i64 ((q.getD 0 q0).kind), .int .i64 ((q.getD 0 q0).right), .int .i64 ((q.getD 0 q0).wrong)]] 0, .row 3 [.agg [.int .i64 ((q.getD 0 q0).kind), .int .i64 ((q.getD 0 q0).right), .int .i64 ((q.getD 0 q0).wrong)]] 0])) (ob := [∀ e ∈ ([.agg [.int .i64 ((q.getD 0 q0).kind), .int .i64 ((q.getD 0 q0).right), .int .i64 ((q.getD 0 q0).wrong)]] : List AV), idsOf e = [],
        ∀ e ∈ ([.agg [.int .i64 ((q.getD 0 q0).kind), .int .i64 ((q.getD 0 q0).right), .int .i64 ((q.getD 0 q0).wrong)]] : List AV), idsOf e = []]) (by kernel_rfl) ⟨(by simp [idsOf, idsL, encQ]), (by simp [idsOf, idsL, encQ]), trivial⟩ (.inr (⟨p, (q.drop 1), ([q.getD 0 q0]), (q.getD 0 q0), hbp, fun x hx => hbq x (List.mem_of_mem_drop hx), (by rw [← hm, merge_r (p := p) (q := q) (by omega) (by omega)]; rfl), (by simp; omega), rfl, by first | rfl | (rw [List.length_append]; rfl)⟩))
    · refine Ok.evf (by kernel_rfl) 400 [.d, .v (.int .i64 (p.length : Int)), .d, .v (.int .i64 (q.length : Int)), .v (.int .i64 ((p.length : Int) + (q.length : Int))), .v (.bool false)] [0, 1, 2, 3, 8, 9, 15] 0 (st' := (stX .any 87 [(0, .list (p.map encQ)), (1, .list (q.map encQ)), (2, .func (.func 44) [] []), (3, .func (.func 42) [] []), (8, .nilslice), (9, .nilslice), (15, .bool false)] [])) (e := .normal) (ob := [(.int .i64 (((p.map encQ).length : Nat) : Int) : AV) = (.int .i64 (p.length : Int) : AV),
        (.int .i64 (((q.map encQ).length : Nat) : Int) : AV) = (.int .i64 (q.length : Int) : AV),
        (.int .i64 (IntKind.wrap .i64 ((p.length : Int) + (q.length : Int))) : AV) = (.int .i64 ((p.length : Int) + (q.length : Int)) : AV),
        (.bool (decide (((p.length : Int) + (q.length : Int)) > 0)) : AV) = (.bool false : AV)]) (by kernel_rfl) ⟨len_map, len_map, iW (w64 (by omega) (by omega)), (bF q1), trivial⟩ ?_
      refine seq_n ?_
      refine Ok.evf (by kernel_rfl) 400 [.d] [8, 9] 0 (st' := (stX .any 87 [(8, .nilslice), (9, .nilslice)] [])) (e := (.exit 0)) (ob := []) (by kernel_rfl) trivial ?_
      refine seq_e ?_
      refine loopg_e ?_
      refine blkQ_here ?_
      refine seq_n ?_
      refine Ok.evf (by kernel_rfl) 400 [.d, .d] [8] 0 (st' := (stX .any 87 [(8, .nilslice)] [])) (e := .ret) (ob := []) (by kernel_rfl) trivial ?_
      exact absurd (by rw [← hm, show p = [] from List.length_eq_zero_iff.1 (by omega), show q = [] from List.length_eq_zero_iff.1 (by omega), merge_nil]) hne
  · refine Ok.seqP [true, true, false, false, false] (by kernel_rfl) ?_
    refine Ok.seqP [true, true, false, false, false, false] (by kernel_rfl) ?_
    by_cases q1 : ((p.length : Int) + (q.length : Int)) > 0
    · refine Ok.evf (by kernel_rfl) 400 [.d, .v (.int .i64 (p.length : Int)), .d, .v (.int .i64 (q.length : Int)), .v (.int .i64 ((p.length : Int) + (q.length : Int))), .v (.bool true)] [0, 1, 2, 3, 8, 9, 15] 2 (st' := (stX .any 87 [(0, .list (p.map encQ)), (1, .list (q.map encQ)), (2, .func (.func 44) [] []), (3, .func (.func 42) [] []), (8, .nilslice), (9, .slice 1 0 acc.length 0), (15, .bool true)] [.row 3 [encQ e0] 0, .row 3 (acc.map encQ) 0])) (e := .normal) (ob := [∀ e ∈ ([encQ e0] : List AV), belowV 2 e = true,
        ∀ e ∈ (acc.map encQ : List AV), belowV 2 e = true,
        (.int .i64 (((p.map encQ).length : Nat) : Int) : AV) = (.int .i64 (p.length : Int) : AV),
        (.int .i64 (((q.map encQ).length : Nat) : Int) : AV) = (.int .i64 (q.length : Int) : AV),
        (.int .i64 (IntKind.wrap .i64 ((p.length : Int) + (q.length : Int))) : AV) = (.int .i64 ((p.length : Int) + (q.length : Int)) : AV),
        (.bool (decide (((p.length : Int) + (q.length : Int)) > 0)) : AV) = (.bool true : AV)]) (by kernel_rfl) ⟨(by simp [belowV, idsOf, idsL, encQ]), below_ids (ids_map (fun _ => rfl) _), len_map, len_map, iW (w64 (by omega) (by omega)), (bT q1), trivial⟩ ?_
      refine seq_n ?_
      refine Ok.evf (by kernel_rfl) 400 [.d] [0, 1, 2, 3, 8, 9] 2 (st' := (stX .any 87 [(0, .list (p.map encQ)), (1, .list (q.map encQ)), (2, .func (.func 44) [] []), (3, .func (.func 42) [] []), (8, .nilslice), (9, .slice 1 0 acc.length 0)] [.row 3 [encQ e0] 0, .row 3 (acc.map encQ) 0])) (e := .normal) (ob := [∀ e ∈ ([encQ e0] : List AV), belowV 2 e = true,
        ∀ e ∈ (acc.map encQ : List AV), belowV 2 e = true]) (by kernel_rfl) ⟨(by simp [belowV, idsOf, idsL, encQ]), below_ids (ids_map (fun _ => rfl) _), trivial⟩ ?_
      refine seq_n ?_
      refine Ok.blockP [true, true, false, false, false, true] 1 (by kernel_rfl) ?_
      refine Ok.blockP [true, true, false, false, false, true, false] 2 (by kernel_rfl) ?_
      refine Ok.seqP [true, true, false, false, false, true, false, false] (by kernel_rfl) ?_
      by_cases q2 : (q.length : Int) = 0
      · refine Ok.evf (by kernel_rfl) 400 [.d, .v (.int .i64 (q.length : Int)), .v (.bool true), .d, .d, .d, .d, .d, .d, .d, .d, .d, .d, .d, .d, .d, .d, .d, .d, .d, .d, .d] [0, 1, 2, 3, 8, 9, 31] 2 (st' := (stX .any 87 [(0, .list (p.map encQ)), (1, .list (q.map encQ)), (2, .func (.func 44) [] []), (3, .func (.func 42) [] []), (8, .nilslice), (9, .slice 1 0 acc.length 0), (31, .bool true)] [.row 3 [encQ e0] 0, .row 3 (acc.map encQ) 0])) (e := .normal) (ob := [∀ e ∈ ([encQ e0] : List AV), belowV 2 e = true,
        ∀ e ∈ (acc.map encQ : List AV), belowV 2 e = true,
        (.int .i64 (((q.map encQ).length : Nat) : Int) : AV) = (.int .i64 (q.length : Int) : AV),
        (.bool ((q.length : Int) == 0) : AV) = (.bool true : AV)]) (by kernel_rfl) ⟨(by simp [belowV, idsOf, idsL, encQ]), below_ids (ids_map (fun _ => rfl) _), len_map, (eT q2), trivial⟩ ?_
        refine seq_n ?_
        refine Ok.evf (by kernel_rfl) 400 [.d, .d, .d, .e (encQ (p.getD 0 q0)), .d, .d, .r ((acc ++ [(p.getD 0 q0)]).map encQ), .d, .v (.list ((p.drop 1).map encQ)), .d, .d] [0, 1, 2, 3, 8, 9] 2 (st' := (stX .any 87 [(0, .list ((p.drop 1).map encQ)), (1, .list (q.map encQ)), (2, .func (.func 44) [] []), (3, .func (.func 42) [] []), (8, .nilslice), (9, .slice 1 0 (acc.length + 1) 1)] [.row 3 [encQ e0] 0, .row 3 ((acc ++ [(p.getD 0 q0)]).map encQ) 1])) (e := .normal) (ob := [∀ e ∈ ([encQ e0] : List AV), belowV 2 e = true,
        ∀ e ∈ ((acc ++ [(p.getD 0 q0)]).map encQ : List AV), belowV 2 e = true,
        0 ≤ (0 : Int),
        (p.map encQ)[0]? = some (encQ (p.getD 0 q0)),
        ((acc.map encQ).take acc.length ++ [.agg [.int .i64 ((p.getD 0 q0).kind), .int .i64 ((p.getD 0 q0).right), .int .i64 ((p.getD 0 q0).wrong)]] : List AV) = (acc ++ [(p.getD 0 q0)]).map encQ,
        (2 * (acc.length + ([.agg [.int .i64 ((p.getD 0 q0).kind), .int .i64 ((p.getD 0 q0).right), .int .i64 ((p.getD 0 q0).wrong)]] : List AV).length) + 1024) * 24 ≤ 2 ^ 48,
        ∀ y ∈ ([.agg [.int .i64 ((p.getD 0 q0).kind), .int .i64 ((p.getD 0 q0).right), .int .i64 ((p.getD 0 q0).wrong)]] : List AV), (cellsOf y).length = 3 ∧ ∀ c ∈ cellsOf y, isCell c = true,
        (.list (((p.map encQ).take (p.map encQ).length).drop 1) : AV) = (.list ((p.drop 1).map encQ) : AV),
        0 ≤ (1 : Int) ∧ (1 : Int) ≤ ((p.map encQ).length : Int) ∧ ((p.map encQ).length : Int) ≤ ((p.map encQ : List AV).length : Int),
        ∀ x ∈ (p.map encQ : List AV), (cellsOf x).length = 3]) (by kernel_rfl) ⟨(by simp [belowV, idsOf, idsL, encQ]), below_ids (ids_map (fun _ => rfl) _), (by decide), elemN (by omega) (by omega), rowApp rfl, (by simp; omega), (by simp [cellsOf, isCell, encQ]), slice_map0, (by first | (simp; done) | omega | (simp; omega)), cells_map (f := encQ) (fun _ => rfl) _, trivial⟩ ?_
        refine blk_n ?_
        refine blk_n ?_
        exact loop_g [0, 1, 2, 3, 8, 9] 2 ((p.drop 1).length + (q).length) (by simp; omega) rfl (s' := (stX .any 87 [(0, .list ((p.drop 1).map encQ)), (1, .list (q.map encQ)), (2, .func (.func 44) [] []), (3, .func (.func 42) [] []), (8, .nilslice), (9, .slice 1 0 (acc.length + 1) 0)] [.row 3 [encQ e0] 0, .row 3 ((acc ++ [(p.getD 0 q0)]).map encQ) 0])) (ob := [∀ e ∈ ([encQ e0] : List AV), idsOf e = [],
        ∀ e ∈ ((acc ++ [(p.getD 0 q0)]).map encQ : List AV), idsOf e = []]) (by kernel_rfl) ⟨(by simp [idsOf, idsL, encQ]), ids_map (fun _ => rfl) _, trivial⟩ (.inr (⟨(p.drop 1), q, (acc ++ [p.getD 0 q0]), e0, fun x hx => hbp x (List.mem_of_mem_drop hx), hbq, (by rw [← hm, merge_l (p := p) (q := q) (by omega) (by omega), List.append_assoc]; rfl), (by simp; omega), rfl, by first | rfl | (rw [List.length_append]; rfl)⟩))
      · by_cases q3 : (p.length : Int) > 0
        · by_cases q4 : ((p.getD 0 q0).kind) < ((q.getD 0 q0).kind)
          · refine Ok.evf (by kernel_rfl) 400 [.d, .v (.int .i64 (q.length : Int)), .v (.bool false), .d, .d, .v (.int .i64 (p.length : Int)), .v (.bool true), .d, .d, .d, .e (encQ (p.getD 0 q0)), .d, .f true (.int .i64 ((p.getD 0 q0).kind)), .d, .d, .e (encQ (q.getD 0 q0)), .d, .f true (.int .i64 ((q.getD 0 q0).kind)), .v (.bool true), .d, .d, .d] [0, 1, 2, 3, 8, 9, 31] 2 (st' := (stX .any 87 [(0, .list (p.map encQ)), (1, .list (q.map encQ)), (2, .func (.func 44) [] []), (3, .func (.func 42) [] []), (8, .nilslice), (9, .slice 1 0 acc.length 0), (31, .bool true)] [.row 3 [encQ e0] 0, .row 3 (acc.map encQ) 0])) (e := .normal) (ob := [∀ e ∈ ([encQ e0] : List AV), belowV 2 e = true,
        ∀ e ∈ (acc.map encQ : List AV), belowV 2 e = true,
        (.int .i64 (((q.map encQ).length : Nat) : Int) : AV) = (.int .i64 (q.length : Int) : AV),
        (.bool ((q.length : Int) == 0) : AV) = (.bool false : AV),
        (.int .i64 (((p.map encQ).length : Nat) : Int) : AV) = (.int .i64 (p.length : Int) : AV),
        (.bool (decide ((p.length : Int) > 0)) : AV) = (.bool true : AV),
        0 ≤ (0 : Int),
        (p.map encQ)[0]? = some (encQ (p.getD 0 q0)),
        FnF Try.prog 44 true [.agg [.int .i64 ((p.getD 0 q0).kind), .int .i64 ((p.getD 0 q0).right), .int .i64 ((p.getD 0 q0).wrong)]] (.int .i64 ((p.getD 0 q0).kind)),
        0 ≤ (0 : Int),
        (q.map encQ)[0]? = some (encQ (q.getD 0 q0)),
        FnF Try.prog 44 true [.agg [.int .i64 ((q.getD 0 q0).kind), .int .i64 ((q.getD 0 q0).right), .int .i64 ((q.getD 0 q0).wrong)]] (.int .i64 ((q.getD 0 q0).kind)),
        (.bool (decide (((p.getD 0 q0).kind) < ((q.getD 0 q0).kind))) : AV) = (.bool true : AV)]) (by kernel_rfl) ⟨(by simp [belowV, idsOf, idsL, encQ]), below_ids (ids_map (fun _ => rfl) _), len_map, (eF q2), len_map, (bT q3), (by decide), elemN (by omega) (by omega), od_key (x := (p.getD 0 q0)), (by decide), elemN (by omega) (by omega), od_key (x := (q.getD 0 q0)), (bT q4), trivial⟩ ?_
            refine seq_n ?_
            refine Ok.evf (by kernel_rfl) 400 [.d, .d, .d, .e (encQ (p.getD 0 q0)), .d, .d, .r ((acc ++ [(p.getD 0 q0)]).map encQ), .d, .v (.list ((p.drop 1).map encQ)), .d, .d] [0, 1, 2, 3, 8, 9] 2 (st' := (stX .any 87 [(0, .list ((p.drop 1).map encQ)), (1, .list (q.map encQ)), (2, .func (.func 44) [] []), (3, .func (.func 42) [] []), (8, .nilslice), (9, .slice 1 0 (acc.length + 1) 1)] [.row 3 [encQ e0] 0, .row 3 ((acc ++ [(p.getD 0 q0)]).map encQ) 1])) (e := .normal) (ob := [∀ e ∈ ([encQ e0] : List AV), belowV 2 e = true,
        ∀ e ∈ ((acc ++ [(p.getD 0 q0)]).map encQ : List AV), belowV 2 e = true,
        0 ≤ (0 : Int),
        (p.map encQ)[0]? = some (encQ (p.getD 0 q0)),
        ((acc.map encQ).take acc.length ++ [.agg [.int .i64 ((p.getD 0 q0).kind), .int .i64 ((p.getD 0 q0).right), .int .i64 ((p.getD 0 q0).wrong)]] : List AV) = (acc ++ [(p.getD 0 q0)]).map encQ,
        (2 * (acc.length + ([.agg [.int .i64 ((p.getD 0 q0).kind), .int .i64 ((p.getD 0 q0).right), .int .i64 ((p.getD 0 q0).wrong)]] : List AV).length) + 1024) * 24 ≤ 2 ^ 48,
        ∀ y ∈ ([.agg [.int .i64 ((p.getD 0 q0).kind), .int .i64 ((p.getD 0 q0).right), .int .i64 ((p.getD 0 q0).wrong)]] : List AV), (cellsOf y).length = 3 ∧ ∀ c ∈ cellsOf y, isCell c = true,
        (.list (((p.map encQ).take (p.map encQ).length).drop 1) : AV) = (.list ((p.drop 1).map encQ) : AV),
        0 ≤ (1 : Int) ∧ (1 : Int) ≤ ((p.map encQ).length : Int) ∧ ((p.map encQ).length : Int) ≤ ((p.map encQ : List AV).length : Int),
        ∀ x ∈ (p.map encQ : List AV), (cellsOf x).length = 3]) (by kernel_rfl) ⟨(by simp [belowV, idsOf, idsL, encQ]), below_ids (ids_map (fun _ => rfl) _), (by decide), elemN (by omega) (by omega), rowApp rfl, (by simp; omega), (by simp [cellsOf, isCell, encQ]), slice_map0, (by first | (simp; done) | omega | (simp; omega)), cells_map (f := encQ) (fun _ => rfl) _, trivial⟩ ?_
            refine blk_n ?_
            refine blk_n ?_
            exact loop_g [0, 1, 2, 3, 8, 9] 2 ((p.drop 1).length + (q).length) (by simp; omega) rfl (s' := (stX .any 87 [(0, .list ((p.drop 1).map encQ)), (1, .list (q.map encQ)), (2, .func (.func 44) [] []), (3, .func (.func 42) [] []), (8, .nilslice), (9, .slice 1 0 (acc.length + 1) 0)] [.row 3 [encQ e0] 0, .row 3 ((acc ++ [(p.getD 0 q0)]).map encQ) 0])) (ob := [∀ e ∈ ([encQ e0] : List AV), idsOf e = [],
        ∀ e ∈ ((acc ++ [(p.getD 0 q0)]).map encQ : List AV), idsOf e = []]) (by kernel_rfl) ⟨(by simp [idsOf, idsL, encQ]), ids_map (fun _ => rfl) _, trivial⟩ (.inr (⟨(p.drop 1), q, (acc ++ [p.getD 0 q0]), e0, fun x hx => hbp x (List.mem_of_mem_drop hx), hbq, (by rw [← hm, merge_l (p := p) (q := q) (by omega) (by omega), List.append_assoc]; rfl), (by simp; omega), rfl, by first | rfl | (rw [List.length_append]; rfl)⟩))
          · refine Ok.evf (by kernel_rfl) 400 [.d, .v (.int .i64 (q.length : Int)), .v (.bool false), .d, .d, .v (.int .i64 (p.length : Int)), .v (.bool true), .d, .d, .d, .e (encQ (p.getD 0 q0)), .d, .f true (.int .i64 ((p.getD 0 q0).kind)), .d, .d, .e (encQ (q.getD 0 q0)), .d, .f true (.int .i64 ((q.getD 0 q0).kind)), .v (.bool false), .d, .d, .d] [0, 1, 2, 3, 8, 9, 31] 2 (st' := (stX .any 87 [(0, .list (p.map encQ)), (1, .list (q.map encQ)), (2, .func (.func 44) [] []), (3, .func (.func 42) [] []), (8, .nilslice), (9, .slice 1 0 acc.length 0), (31, .bool false)] [.row 3 [encQ e0] 0, .row 3 (acc.map encQ) 0])) (e := .normal) (ob := [∀ e ∈ ([encQ e0] : List AV), belowV 2 e = true,
        ∀ e ∈ (acc.map encQ : List AV), belowV 2 e = true,
        (.int .i64 (((q.map encQ).length : Nat) : Int) : AV) = (.int .i64 (q.length : Int) : AV),
        (.bool ((q.length : Int) == 0) : AV) = (.bool false : AV),
        (.int .i64 (((p.map encQ).length : Nat) : Int) : AV) = (.int .i64 (p.length : Int) : AV),
        (.bool (decide ((p.length : Int) > 0)) : AV) = (.bool true : AV),
        0 ≤ (0 : Int),
        (p.map encQ)[0]? = some (encQ (p.getD 0 q0)),
        FnF Try.prog 44 true [.agg [.int .i64 ((p.getD 0 q0).kind), .int .i64 ((p.getD 0 q0).right), .int .i64 ((p.getD 0 q0).wrong)]] (.int .i64 ((p.getD 0 q0).kind)),
        0 ≤ (0 : Int),
        (q.map encQ)[0]? = some (encQ (q.getD 0 q0)),
        FnF Try.prog 44 true [.agg [.int .i64 ((q.getD 0 q0).kind), .int .i64 ((q.getD 0 q0).right), .int .i64 ((q.getD 0 q0).wrong)]] (.int .i64 ((q.getD 0 q0).kind)),
        (.bool (decide (((p.getD 0 q0).kind) < ((q.getD 0 q0).kind))) : AV) = (.bool false : AV)]) (by kernel_rfl) ⟨(by simp [belowV, idsOf, idsL, encQ]), below_ids (ids_map (fun _ => rfl) _), len_map, (eF q2), len_map, (bT q3), (by decide), elemN (by omega) (by omega), od_key (x := (p.getD 0 q0)), (by decide), elemN (by omega) (by omega), od_key (x := (q.getD 0 q0)), (bF q4), trivial⟩ ?_
            refine seq_n ?_
            by_cases q5 : ((q.getD 0 q0).kind) < ((p.getD 0 q0).kind)
            · refine Ok.evf (by kernel_rfl) 400 [.d, .d, .v (.int .i64 (p.length : Int)), .v (.bool false), .d, .d, .d, .e (encQ (q.getD 0 q0)), .d, .f true (.int .i64 ((q.getD 0 q0).kind)), .d, .d, .e (encQ (p.getD 0 q0)), .d, .f true (.int .i64 ((p.getD 0 q0).kind)), .v (.bool true), .d, .d, .d, .d, .d, .e (encQ (q.getD 0 q0)), .d, .d, .r ((acc ++ [(q.getD 0 q0)]).map encQ), .d, .v (.list ((q.drop 1).map encQ)), .d, .d] [0, 1, 2, 3, 8, 9] 2 (st' := (stX .any 87 [(0, .list (p.map encQ)), (1, .list ((q.drop 1).map encQ)), (2, .func (.func 44) [] []), (3, .func (.func 42) [] []), (8, .nilslice), (9, .slice 1 0 (acc.length + 1) 1)] [.row 3 [encQ e0] 0, .row 3 ((acc ++ [(q.getD 0 q0)]).map encQ) 1])) (e := .normal) (ob := [∀ e ∈ ([encQ e0] : List AV), belowV 2 e = true,
        ∀ e ∈ ((acc ++ [(q.getD 0 q0)]).map encQ : List AV), belowV 2 e = true,
        (.int .i64 (((p.map encQ).length : Nat) : Int) : AV) = (.int .i64 (p.length : Int) : AV),
        (.bool ((p.length : Int) == 0) : AV) = (.bool false : AV),
        0 ≤ (0 : Int),
        (q.map encQ)[0]? = some (encQ (q.getD 0 q0)),
        FnF Try.prog 44 true [.agg [.int .i64 ((q.getD 0 q0).kind), .int .i64 ((q.getD 0 q0).right), .int .i64 ((q.getD 0 q0).wrong)]] (.int .i64 ((q.getD 0 q0).kind)),
        0 ≤ (0 : Int),
        (p.map encQ)[0]? = some (encQ (p.getD 0 q0)),
        FnF Try.prog 44 true [.agg [.int .i64 ((p.getD 0 q0).kind), .int .i64 ((p.getD 0 q0).right), .int .i64 ((p.getD 0 q0).wrong)]] (.int .i64 ((p.getD 0 q0).kind)),
        (.bool (decide (((q.getD 0 q0).kind) < ((p.getD 0 q0).kind))) : AV) = (.bool true : AV),
        0 ≤ (0 : Int),
        (q.map encQ)[0]? = some (encQ (q.getD 0 q0)),
        ((acc.map encQ).take acc.length ++ [.agg [.int .i64 ((q.getD 0 q0).kind), .int .i64 ((q.getD 0 q0).right), .int .i64 ((q.getD 0 q0).wrong)]] : List AV) = (acc ++ [(q.getD 0 q0)]).map encQ,
        (2 * (acc.length + ([.agg [.int .i64 ((q.getD 0 q0).kind), .int .i64 ((q.getD 0 q0).right), .int .i64 ((q.getD 0 q0).wrong)]] : List AV).length) + 1024) * 24 ≤ 2 ^ 48,
        ∀ y ∈ ([.agg [.int .i64 ((q.getD 0 q0).kind), .int .i64 ((q.getD 0 q0).right), .int .i64 ((q.getD 0 q0).wrong)]] : List AV), (cellsOf y).length = 3 ∧ ∀ c ∈ cellsOf y, isCell c = true,
        (.list (((q.map encQ).take (q.map encQ).length).drop 1) : AV) = (.list ((q.drop 1).map encQ) : AV),
        0 ≤ (1 : Int) ∧ (1 : Int) ≤ ((q.map encQ).length : Int) ∧ ((q.map encQ).length : Int) ≤ ((q.map encQ : List AV).length : Int),
        ∀ x ∈ (q.map encQ : List AV), (cellsOf x).length = 3]) (by kernel_rfl) ⟨(by simp [belowV, idsOf, idsL, encQ]), below_ids (ids_map (fun _ => rfl) _), len_map, (eF (by omega)), (by decide), elemN (by omega) (by omega), od_key (x := (q.getD 0 q0)), (by decide), elemN (by omega) (by omega), od_key (x := (p.getD 0 q0)), (bT q5), (by decide), elemN (by omega) (by omega), rowApp rfl, (by simp; omega), (by simp [cellsOf, isCell, encQ]), slice_map0, (by first | (simp; done) | omega | (simp; omega)), cells_map (f := encQ) (fun _ => rfl) _, trivial⟩ ?_
              refine blk_n ?_
              refine blk_n ?_
              exact loop_g [0, 1, 2, 3, 8, 9] 2 ((p).length + (q.drop 1).length) (by simp; omega) rfl (s' := (stX .any 87 [(0, .list (p.map encQ)), (1, .list ((q.drop 1).map encQ)), (2, .func (.func 44) [] []), (3, .func (.func 42) [] []), (8, .nilslice), (9, .slice 1 0 (acc.length + 1) 0)] [.row 3 [encQ e0] 0, .row 3 ((acc ++ [(q.getD 0 q0)]).map encQ) 0])) (ob := [∀ e ∈ ([encQ e0] : List AV), idsOf e = [],
        ∀ e ∈ ((acc ++ [(q.getD 0 q0)]).map encQ : List AV), idsOf e = []]) (by kernel_rfl) ⟨(by simp [idsOf, idsL, encQ]), ids_map (fun _ => rfl) _, trivial⟩ (.inr (⟨p, (q.drop 1), (acc ++ [q.getD 0 q0]), e0, hbp, fun x hx => hbq x (List.mem_of_mem_drop hx), (by rw [← hm, merge_r (p := p) (q := q) (by omega) (by omega), List.append_assoc]; rfl), (by simp; omega), rfl, by first | rfl | (rw [List.length_append]; rfl)⟩))
            · refine Ok.evf (by kernel_rfl) 400 [.d, .d, .v (.int .i64 (p.length : Int)), .v (.bool false), .d, .d, .d, .e (encQ (q.getD 0 q0)), .d, .f true (.int .i64 ((q.getD 0 q0).kind)), .d, .d, .e (encQ (p.getD 0 q0)), .d, .f true (.int .i64 ((p.getD 0 q0).kind)), .v (.bool false), .d, .d, .d, .d, .d, .d, .e (encQ (p.getD 0 q0)), .d, .d, .e (encQ (q.getD 0 q0)), .d, .f true (encQ (sumQ (p.getD 0 q0) (q.getD 0 q0))), .d, .r ((acc ++ [sumQ (p.getD 0 q0) (q.getD 0 q0)]).map encQ), .d, .v (.list ((p.drop 1).map encQ)), .d, .v (.list ((q.drop 1).map encQ)), .d, .d, .d] [0, 1, 2, 3, 8, 9] 2 (st' := (stX .any 87 [(0, .list ((p.drop 1).map encQ)), (1, .list ((q.drop 1).map encQ)), (2, .func (.func 44) [] []), (3, .func (.func 42) [] []), (8, .nilslice), (9, .slice 1 0 (acc.length + 1) 1)] [.row 3 [encQ e0] 0, .row 3 ((acc ++ [sumQ (p.getD 0 q0) (q.getD 0 q0)]).map encQ) 1])) (e := .normal) (ob := [∀ e ∈ ([encQ e0] : List AV), belowV 2 e = true,
        ∀ e ∈ ((acc ++ [sumQ (p.getD 0 q0) (q.getD 0 q0)]).map encQ : List AV), belowV 2 e = true,
        (.int .i64 (((p.map encQ).length : Nat) : Int) : AV) = (.int .i64 (p.length : Int) : AV),
        (.bool ((p.length : Int) == 0) : AV) = (.bool false : AV),
        0 ≤ (0 : Int),
        (q.map encQ)[0]? = some (encQ (q.getD 0 q0)),
        FnF Try.prog 44 true [.agg [.int .i64 ((q.getD 0 q0).kind), .int .i64 ((q.getD 0 q0).right), .int .i64 ((q.getD 0 q0).wrong)]] (.int .i64 ((q.getD 0 q0).kind)),
        0 ≤ (0 : Int),
        (p.map encQ)[0]? = some (encQ (p.getD 0 q0)),
        FnF Try.prog 44 true [.agg [.int .i64 ((p.getD 0 q0).kind), .int .i64 ((p.getD 0 q0).right), .int .i64 ((p.getD 0 q0).wrong)]] (.int .i64 ((p.getD 0 q0).kind)),
        (.bool (decide (((q.getD 0 q0).kind) < ((p.getD 0 q0).kind))) : AV) = (.bool false : AV),
        0 ≤ (0 : Int),
        (p.map encQ)[0]? = some (encQ (p.getD 0 q0)),
        0 ≤ (0 : Int),
        (q.map encQ)[0]? = some (encQ (q.getD 0 q0)),
        FnF Try.prog 42 true [.agg [.int .i64 ((p.getD 0 q0).kind), .int .i64 ((p.getD 0 q0).right), .int .i64 ((p.getD 0 q0).wrong)], .agg [.int .i64 ((q.getD 0 q0).kind), .int .i64 ((q.getD 0 q0).right), .int .i64 ((q.getD 0 q0).wrong)]] (encQ (sumQ (p.getD 0 q0) (q.getD 0 q0))),
        ((acc.map encQ).take acc.length ++ [encQ (sumQ (p.getD 0 q0) (q.getD 0 q0))] : List AV) = (acc ++ [sumQ (p.getD 0 q0) (q.getD 0 q0)]).map encQ,
        (2 * (acc.length + ([encQ (sumQ (p.getD 0 q0) (q.getD 0 q0))] : List AV).length) + 1024) * 24 ≤ 2 ^ 48,
        ∀ y ∈ ([encQ (sumQ (p.getD 0 q0) (q.getD 0 q0))] : List AV), (cellsOf y).length = 3 ∧ ∀ c ∈ cellsOf y, isCell c = true,
        (.list (((p.map encQ).take (p.map encQ).length).drop 1) : AV) = (.list ((p.drop 1).map encQ) : AV),
        0 ≤ (1 : Int) ∧ (1 : Int) ≤ ((p.map encQ).length : Int) ∧ ((p.map encQ).length : Int) ≤ ((p.map encQ : List AV).length : Int),
        ∀ x ∈ (p.map encQ : List AV), (cellsOf x).length = 3,
        (.list (((q.map encQ).take (q.map encQ).length).drop 1) : AV) = (.list ((q.drop 1).map encQ) : AV),
        0 ≤ (1 : Int) ∧ (1 : Int) ≤ ((q.map encQ).length : Int) ∧ ((q.map encQ).length : Int) ≤ ((q.map encQ : List AV).length : Int),
        ∀ x ∈ (q.map encQ : List AV), (cellsOf x).length = 3]) (by kernel_rfl) ⟨(by simp [belowV, idsOf, idsL, encQ]), below_ids (ids_map (fun _ => rfl) _), len_map, (eF (by omega)), (by decide), elemN (by omega) (by omega), od_key (x := (q.getD 0 q0)), (by decide), elemN (by omega) (by omega), od_key (x := (p.getD 0 q0)), (bF q5), (by decide), elemN (by omega) (by omega), (by decide), elemN (by omega) (by omega), od_sum (x := (p.getD 0 q0)) (y := (q.getD 0 q0)) (hbp _ (getD_mem (by omega))) (hbq _ (getD_mem (by omega))), rowApp rfl, (by simp; omega), (by simp [cellsOf, isCell, encQ]), slice_map0, (by first | (simp; done) | omega | (simp; omega)), cells_map (f := encQ) (fun _ => rfl) _, slice_map0, (by first | (simp; done) | omega | (simp; omega)), cells_map (f := encQ) (fun _ => rfl) _, trivial⟩ ?_
              refine blk_n ?_
              refine blk_n ?_
              exact loop_g [0, 1, 2, 3, 8, 9] 2 ((p.drop 1).length + (q.drop 1).length) (by simp; omega) rfl (s' := (stX .any 87 [(0, .list ((p.drop 1).map encQ)), (1, .list ((q.drop 1).map encQ)), (2, .func (.func 44) [] []), (3, .func (.func 42) [] []), (8, .nilslice), (9, .slice 1 0 (acc.length + 1) 0)] [.row 3 [encQ e0] 0, .row 3 ((acc ++ [sumQ (p.getD 0 q0) (q.getD 0 q0)]).map encQ) 0])) (ob := [∀ e ∈ ([encQ e0] : List AV), idsOf e = [],
        ∀ e ∈ ((acc ++ [sumQ (p.getD 0 q0) (q.getD 0 q0)]).map encQ : List AV), idsOf e = []]) (by kernel_rfl) ⟨(by simp [idsOf, idsL, encQ]), ids_map (fun _ => rfl) _, trivial⟩ (.inr (⟨(p.drop 1), (q.drop 1), (acc ++ [sumQ (p.getD 0 q0) (q.getD 0 q0)]), e0, fun x hx => hbp x (List.mem_of_mem_drop hx), fun x hx => hbq x (List.mem_of_mem_drop hx), (by rw [← hm, merge_b (p := p) (q := q) (by omega) (by omega) (by omega), List.append_assoc]; rfl), (by simp; omega), rfl, by first | rfl | (rw [List.length_append]; rfl)⟩))
        · refine Ok.evf (by kernel_rfl) 400 [.d, .v (.int .i64 (q.length : Int)), .v (.bool false), .d, .d, .v (.int .i64 (p.length : Int)), .v (.bool false), .d, .d, .d, .d, .d, .d, .d, .d, .d, .d, .d, .d, .d, .d, .d] [0, 1, 2, 3, 8, 9, 31] 2 (st' := (stX .any 87 [(0, .list (p.map encQ)), (1, .list (q.map encQ)), (2, .func (.func 44) [] []), (3, .func (.func 42) [] []), (8, .nilslice), (9, .slice 1 0 acc.length 0), (31, .bool false)] [.row 3 [encQ e0] 0, .row 3 (acc.map encQ) 0])) (e := .normal) (ob := [∀ e ∈ ([encQ e0] : List AV), belowV 2 e = true,
        ∀ e ∈ (acc.map encQ : List AV), belowV 2 e = true,
        (.int .i64 (((q.map encQ).length : Nat) : Int) : AV) = (.int .i64 (q.length : Int) : AV),
        (.bool ((q.length : Int) == 0) : AV) = (.bool false : AV),
        (.int .i64 (((p.map encQ).length : Nat) : Int) : AV) = (.int .i64 (p.length : Int) : AV),
        (.bool (decide ((p.length : Int) > 0)) : AV) = (.bool false : AV)]) (by kernel_rfl) ⟨(by simp [belowV, idsOf, idsL, encQ]), below_ids (ids_map (fun _ => rfl) _), len_map, (eF q2), len_map, (bF q3), trivial⟩ ?_
          refine seq_n ?_
          refine Ok.evf (by kernel_rfl) 400 [.d, .d, .v (.int .i64 (p.length : Int)), .v (.bool true), .d, .d, .d, .d, .d, .d, .d, .d, .d, .d, .d, .d, .d, .d, .d, .d, .d, .e (encQ (q.getD 0 q0)), .d, .d, .r ((acc ++ [(q.getD 0 q0)]).map encQ), .d, .v (.list ((q.drop 1).map encQ)), .d, .d] [0, 1, 2, 3, 8, 9] 2 (st' := (stX .any 87 [(0, .list (p.map encQ)), (1, .list ((q.drop 1).map encQ)), (2, .func (.func 44) [] []), (3, .func (.func 42) [] []), (8, .nilslice), (9, .slice 1 0 (acc.length + 1) 1)] [.row 3 [encQ e0] 0, .row 3 ((acc ++ [(q.getD 0 q0)]).map encQ) 1])) (e := .normal) (ob := [∀ e ∈ ([encQ e0] : List AV), belowV 2 e = true,
        ∀ e ∈ ((acc ++ [(q.getD 0 q0)]).map encQ : List AV), belowV 2 e = true,
        (.int .i64 (((p.map encQ).length : Nat) : Int) : AV) = (.int .i64 (p.length : Int) : AV),
        (.bool ((p.length : Int) == 0) : AV) = (.bool true : AV),
        0 ≤ (0 : Int),
        (q.map encQ)[0]? = some (encQ (q.getD 0 q0)),
        ((acc.map encQ).take acc.length ++ [.agg [.int .i64 ((q.getD 0 q0).kind), .int .i64 ((q.getD 0 q0).right), .int .i64 ((q.getD 0 q0).wrong)]] : List AV) = (acc ++ [(q.getD 0 q0)]).map encQ,
        (2 * (acc.length + ([.agg [.int .i64 ((q.getD 0 q0).kind), .int .i64 ((q.getD 0 q0).right), .int .i64 ((q.getD 0 q0).wrong)]] : List AV).length) + 1024) * 24 ≤ 2 ^ 48,
        ∀ y ∈ ([.agg [.int .i64 ((q.getD 0 q0).kind), .int .i64 ((q.getD 0 q0).right), .int .i64 ((q.getD 0 q0).wrong)]] : List AV), (cellsOf y).length = 3 ∧ ∀ c ∈ cellsOf y, isCell c = true,
        (.list (((q.map encQ).take (q.map encQ).length).drop 1) : AV) = (.list ((q.drop 1).map encQ) : AV),
        0 ≤ (1 : Int) ∧ (1 : Int) ≤ ((q.map encQ).length : Int) ∧ ((q.map encQ).length : Int) ≤ ((q.map encQ : List AV).length : Int),
        ∀ x ∈ (q.map encQ : List AV), (cellsOf x).length = 3]) (by kernel_rfl) ⟨(by simp [belowV, idsOf, idsL, encQ]), below_ids (ids_map (fun _ => rfl) _), len_map, (eT (by omega)), (by decide), elemN (by omega) (by omega), rowApp rfl, (by simp; omega), (by simp [cellsOf, isCell, encQ]), slice_map0, (by first | (simp; done) | omega | (simp; omega)), cells_map (f := encQ) (fun _ => rfl) _, trivial⟩ ?_
          refine blk_n ?_
          refine blk_n ?_
          exact loop_g [0, 1, 2, 3, 8, 9] 2 ((p).length + (q.drop 1).length) (by simp; omega) rfl (s' := (stX .any 87 [(0, .list (p.map encQ)), (1, .list ((q.drop 1).map encQ)), (2, .func (.func 44) [] []), (3, .func (.func 42) [] []), (8, .nilslice), (9, .slice 1 0 (acc.length + 1) 0)] [.row 3 [encQ e0] 0, .row 3 ((acc ++ [(q.getD 0 q0)]).map encQ) 0])) (ob := [∀ e ∈ ([encQ e0] : List AV), idsOf e = [],
        ∀ e ∈ ((acc ++ [(q.getD 0 q0)]).map encQ : List AV), idsOf e = []]) (by kernel_rfl) ⟨(by simp [idsOf, idsL, encQ]), ids_map (fun _ => rfl) _, trivial⟩ (.inr (⟨p, (q.drop 1), (acc ++ [q.getD 0 q0]), e0, hbp, fun x hx => hbq x (List.mem_of_mem_drop hx), (by rw [← hm, merge_r (p := p) (q := q) (by omega) (by omega), List.append_assoc]; rfl), (by simp; omega), rfl, by first | rfl | (rw [List.length_append]; rfl)⟩))
    · refine Ok.evf (by kernel_rfl) 400 [.d, .v (.int .i64 (p.length : Int)), .d, .v (.int .i64 (q.length : Int)), .v (.int .i64 ((p.length : Int) + (q.length : Int))), .v (.bool false)] [0, 1, 2, 3, 8, 9, 15] 2 (st' := (stX .any 87 [(0, .list (p.map encQ)), (1, .list (q.map encQ)), (2, .func (.func 44) [] []), (3, .func (.func 42) [] []), (8, .nilslice), (9, .slice 1 0 acc.length 0), (15, .bool false)] [.row 3 [encQ e0] 0, .row 3 (acc.map encQ) 0])) (e := .normal) (ob := [∀ e ∈ ([encQ e0] : List AV), belowV 2 e = true,
        ∀ e ∈ (acc.map encQ : List AV), belowV 2 e = true,
        (.int .i64 (((p.map encQ).length : Nat) : Int) : AV) = (.int .i64 (p.length : Int) : AV),
        (.int .i64 (((q.map encQ).length : Nat) : Int) : AV) = (.int .i64 (q.length : Int) : AV),
        (.int .i64 (IntKind.wrap .i64 ((p.length : Int) + (q.length : Int))) : AV) = (.int .i64 ((p.length : Int) + (q.length : Int)) : AV),
        (.bool (decide (((p.length : Int) + (q.length : Int)) > 0)) : AV) = (.bool false : AV)]) (by kernel_rfl) ⟨(by simp [belowV, idsOf, idsL, encQ]), below_ids (ids_map (fun _ => rfl) _), len_map, len_map, iW (w64 (by omega) (by omega)), (bF q1), trivial⟩ ?_
      refine seq_n ?_
      refine Ok.evf (by kernel_rfl) 400 [.d] [8, 9] 2 (st' := (stX .any 87 [(8, .nilslice), (9, .slice 1 0 acc.length 0)] [.row 3 [encQ e0] 0, .row 3 (acc.map encQ) 0])) (e := (.exit 0)) (ob := [∀ e ∈ ([encQ e0] : List AV), belowV 2 e = true,
        ∀ e ∈ (acc.map encQ : List AV), belowV 2 e = true]) (by kernel_rfl) ⟨(by simp [belowV, idsOf, idsL, encQ]), below_ids (ids_map (fun _ => rfl) _), trivial⟩ ?_
      refine seq_e ?_
      refine loopg_e ?_
      refine blkQ_here ?_
      refine seq_n ?_
      refine Ok.evf (by kernel_rfl) 400 [.d, .d] [8] 2 (st' := (stX .any 87 [(8, .slice 1 0 acc.length 0)] [.row 3 [encQ e0] 0, .row 3 (acc.map encQ) 0])) (e := .ret) (ob := [∀ e ∈ ([encQ e0] : List AV), belowV 2 e = true,
        ∀ e ∈ (acc.map encQ : List AV), belowV 2 e = true]) (by kernel_rfl) ⟨(by simp [belowV, idsOf, idsL, encQ]), below_ids (ids_map (fun _ => rfl) _), trivial⟩ ?_
      rw [← hm, show p = [] from List.length_eq_zero_iff.1 (by omega), show q = [] from List.length_eq_zero_iff.1 (by omega), merge_nil, List.append_nil]
      exact ⟨.inr rfl, fin_of [1] (ob := [∀ e ∈ (acc.map encQ : List AV), idsOf e = []]) (by kernel_rfl) ⟨ids_map (fun _ => rfl) _, trivial⟩⟩

end Go.Proofs.Ytlhmionefjopiaa
