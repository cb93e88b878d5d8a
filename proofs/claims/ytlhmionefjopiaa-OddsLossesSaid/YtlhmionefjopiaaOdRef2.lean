/- Learn and Right of the reference -/
import Derived.Test.YtlhmionefjopiaaOdCnt
import Derived.Test.YtlhmionefjopiaaProg
set_option linter.unusedVariables false
set_option linter.unusedSimpArgs false
namespace Go.Proofs.Ytlhmionefjopiaa
open Go.RowKit
set_option maxRecDepth 100000

theorem right_one1 {k : Int} (hk : 1 ≤ k ∧ k ≤ 14) : RightP [(⟨k, 1, 0⟩ : An)] := right_iff.2 ⟨List.pairwise_singleton _ _, fun x hx => by simp at hx; subst hx; unfold okQ; simp; omega⟩
theorem right_one2 {k : Int} (hk : 1 ≤ k ∧ k ≤ 14) : RightP [(⟨k, 0, 1⟩ : An)] := right_iff.2 ⟨List.pairwise_singleton _ _, fun x hx => by simp at hx; subst hx; unfold okQ; simp; omega⟩
theorem rightE_right {l : List An} (h : rightE l = 0) : RightP l := by
  unfold rightE at h
  split at h
  · assumption
  · exact absurd h (by decide)
theorem rightE_z {l : List An} (h : RightP l) : rightE l = 0 := by rw [rightE, if_pos h]
theorem joinL_right (m : List An) : RightP (joinL m) := by
  unfold joinL
  split
  · exact rightE_right (by assumption)
  · exact right_nil
theorem lrnL_right (l : List An) (k : Int) (r : Bool) : RightP (lrnL l k r) := by
  unfold lrnL
  split
  · exact right_nil
  · exact joinL_right _
theorem od_rlearn_true {l : List An} {k : Int} (hl : RightP l) (hk : -9223372036854775808 ≤ k ∧ k ≤ 9223372036854775807) : FnF Try.prog 21 false [.list (l.map encQ), .int .i64 k, .bool true] (.agg [.list ((lrnL l k true).map encQ), .int .i64 (lrnE l k true)]) := by
  by_cases q1 : k < 1
  · exact fn_evF (by kernel_rfl) Try.func21 (by kernel_rfl) 400 [.d, .d, .v (.bool true), .d, .d, .d, .d, .d, .d, .d] (by kernel_rfl) (ob := [(.bool (decide (k < 1)) : AV) = (.bool true : AV), [] = ((lrnL l k true).map encQ : List AV), (1 : Int) = lrnE l k true]) (by kernel_rfl) ⟨(bT q1), (by first | (unfold lrnE; rw [if_pos (by omega)]; done) | (unfold lrnL; rw [if_pos (by omega)]; rfl) | (unfold lrnE; rw [if_neg (by omega)]; rfl) | (unfold lrnL; rw [if_neg (by omega)]; rfl)), (by first | (unfold lrnE; rw [if_pos (by omega)]; done) | (unfold lrnL; rw [if_pos (by omega)]; rfl) | (unfold lrnE; rw [if_neg (by omega)]; rfl) | (unfold lrnL; rw [if_neg (by omega)]; rfl)), trivial⟩
  · by_cases q2 : k > 14
    · exact fn_evF (by kernel_rfl) Try.func21 (by kernel_rfl) 400 [.d, .d, .v (.bool false), .d, .d, .v (.bool true), .d, .d, .d, .d] (by kernel_rfl) (ob := [(.bool (decide (k < 1)) : AV) = (.bool false : AV), (.bool (decide (k > 14)) : AV) = (.bool true : AV), [] = ((lrnL l k true).map encQ : List AV), (1 : Int) = lrnE l k true]) (by kernel_rfl) ⟨(bF q1), (bT q2), (by first | (unfold lrnE; rw [if_pos (by omega)]; done) | (unfold lrnL; rw [if_pos (by omega)]; rfl) | (unfold lrnE; rw [if_neg (by omega)]; rfl) | (unfold lrnL; rw [if_neg (by omega)]; rfl)), (by first | (unfold lrnE; rw [if_pos (by omega)]; done) | (unfold lrnL; rw [if_pos (by omega)]; rfl) | (unfold lrnE; rw [if_neg (by omega)]; rfl) | (unfold lrnL; rw [if_neg (by omega)]; rfl)), trivial⟩
    · exact fn_evF (by kernel_rfl) Try.func21 (by kernel_rfl) 400 [.d, .d, .v (.bool false), .d, .d, .v (.bool false), .d, .d, .d, .d, .d, .d, .d, .d, .d, .d, .d, .d, .d, .d, .f true (.agg [.list ((joinL (mergeF l ([(⟨k, 1, 0⟩ : An)]))).map encQ), .int .i64 (joinE (mergeF l ([(⟨k, 1, 0⟩ : An)])))]), .d] (by kernel_rfl) (ob := [(.bool (decide (k < 1)) : AV) = (.bool false : AV), (.bool (decide (k > 14)) : AV) = (.bool false : AV), FnF Try.prog 15 true [.list (l.map encQ), .list [.agg [.int .i64 k, .int .i64 1, .int .i64 0]]] (.agg [.list ((joinL (mergeF l ([(⟨k, 1, 0⟩ : An)]))).map encQ), .int .i64 (joinE (mergeF l ([(⟨k, 1, 0⟩ : An)])))]), ∀ e ∈ ([.agg [.int .i64 k, .int .i64 1, .int .i64 0]] : List AV), idsOf e = [], ((joinL (mergeF l ([(⟨k, 1, 0⟩ : An)]))).map encQ : List AV) = (lrnL l k true).map encQ, (joinE (mergeF l ([(⟨k, 1, 0⟩ : An)])) : Int) = lrnE l k true]) (by kernel_rfl) ⟨(bF q1), (bF q2), od_rjoin (a := l) (b := [(⟨k, 1, 0⟩ : An)]) hl (right_one1 (by omega)), (by simp [idsOf, idsL, encQ, encW]), (by first | (unfold lrnE; rw [if_pos (by omega)]; done) | (unfold lrnL; rw [if_pos (by omega)]; rfl) | (unfold lrnE; rw [if_neg (by omega)]; rfl) | (unfold lrnL; rw [if_neg (by omega)]; rfl)), (by first | (unfold lrnE; rw [if_pos (by omega)]; done) | (unfold lrnL; rw [if_pos (by omega)]; rfl) | (unfold lrnE; rw [if_neg (by omega)]; rfl) | (unfold lrnL; rw [if_neg (by omega)]; rfl)), trivial⟩

theorem od_rlearn_false {l : List An} {k : Int} (hl : RightP l) (hk : -9223372036854775808 ≤ k ∧ k ≤ 9223372036854775807) : FnF Try.prog 21 false [.list (l.map encQ), .int .i64 k, .bool false] (.agg [.list ((lrnL l k false).map encQ), .int .i64 (lrnE l k false)]) := by
  by_cases q1 : k < 1
  · exact fn_evF (by kernel_rfl) Try.func21 (by kernel_rfl) 400 [.d, .d, .v (.bool true), .d, .d, .d, .d, .d, .d, .d] (by kernel_rfl) (ob := [(.bool (decide (k < 1)) : AV) = (.bool true : AV), [] = ((lrnL l k false).map encQ : List AV), (1 : Int) = lrnE l k false]) (by kernel_rfl) ⟨(bT q1), (by first | (unfold lrnE; rw [if_pos (by omega)]; done) | (unfold lrnL; rw [if_pos (by omega)]; rfl) | (unfold lrnE; rw [if_neg (by omega)]; rfl) | (unfold lrnL; rw [if_neg (by omega)]; rfl)), (by first | (unfold lrnE; rw [if_pos (by omega)]; done) | (unfold lrnL; rw [if_pos (by omega)]; rfl) | (unfold lrnE; rw [if_neg (by omega)]; rfl) | (unfold lrnL; rw [if_neg (by omega)]; rfl)), trivial⟩
  · by_cases q2 : k > 14
    · exact fn_evF (by kernel_rfl) Try.func21 (by kernel_rfl) 400 [.d, .d, .v (.bool false), .d, .d, .v (.bool true), .d, .d, .d, .d] (by kernel_rfl) (ob := [(.bool (decide (k < 1)) : AV) = (.bool false : AV), (.bool (decide (k > 14)) : AV) = (.bool true : AV), [] = ((lrnL l k false).map encQ : List AV), (1 : Int) = lrnE l k false]) (by kernel_rfl) ⟨(bF q1), (bT q2), (by first | (unfold lrnE; rw [if_pos (by omega)]; done) | (unfold lrnL; rw [if_pos (by omega)]; rfl) | (unfold lrnE; rw [if_neg (by omega)]; rfl) | (unfold lrnL; rw [if_neg (by omega)]; rfl)), (by first | (unfold lrnE; rw [if_pos (by omega)]; done) | (unfold lrnL; rw [if_pos (by omega)]; rfl) | (unfold lrnE; rw [if_neg (by omega)]; rfl) | (unfold lrnL; rw [if_neg (by omega)]; rfl)), trivial⟩
    · exact fn_evF (by kernel_rfl) Try.func21 (by kernel_rfl) 400 [.d, .d, .v (.bool false), .d, .d, .v (.bool false), .d, .d, .d, .d, .d, .d, .d, .d, .d, .d, .d, .f true (.agg [.list ((joinL (mergeF l ([(⟨k, 0, 1⟩ : An)]))).map encQ), .int .i64 (joinE (mergeF l ([(⟨k, 0, 1⟩ : An)])))]), .d] (by kernel_rfl) (ob := [(.bool (decide (k < 1)) : AV) = (.bool false : AV), (.bool (decide (k > 14)) : AV) = (.bool false : AV), FnF Try.prog 15 true [.list (l.map encQ), .list [.agg [.int .i64 k, .int .i64 0, .int .i64 1]]] (.agg [.list ((joinL (mergeF l ([(⟨k, 0, 1⟩ : An)]))).map encQ), .int .i64 (joinE (mergeF l ([(⟨k, 0, 1⟩ : An)])))]), ∀ e ∈ ([.agg [.int .i64 k, .int .i64 0, .int .i64 1]] : List AV), idsOf e = [], ((joinL (mergeF l ([(⟨k, 0, 1⟩ : An)]))).map encQ : List AV) = (lrnL l k false).map encQ, (joinE (mergeF l ([(⟨k, 0, 1⟩ : An)])) : Int) = lrnE l k false]) (by kernel_rfl) ⟨(bF q1), (bF q2), od_rjoin (a := l) (b := [(⟨k, 0, 1⟩ : An)]) hl (right_one2 (by omega)), (by simp [idsOf, idsL, encQ, encW]), (by first | (unfold lrnE; rw [if_pos (by omega)]; done) | (unfold lrnL; rw [if_pos (by omega)]; rfl) | (unfold lrnE; rw [if_neg (by omega)]; rfl) | (unfold lrnL; rw [if_neg (by omega)]; rfl)), (by first | (unfold lrnE; rw [if_pos (by omega)]; done) | (unfold lrnL; rw [if_pos (by omega)]; rfl) | (unfold lrnE; rw [if_neg (by omega)]; rfl) | (unfold lrnL; rw [if_neg (by omega)]; rfl)), trivial⟩

theorem od_rright {l : List An} (hl : l.length < 1000000) : FnF Try.prog 12 true [.list (l.map encQ)] (.int .i64 (rightE l)) := by
  refine fn_walkF Try.func12 (by kernel_rfl) (by kernel_rfl) (by kernel_rfl) (st := (stX (.tuple []) 58 [(0, .list (l.map encQ))] [])) rfl ?_
  refine Ok.seqP [] (by kernel_rfl) ?_
  refine Ok.evf (by kernel_rfl) 400 [.d] [0, 2, 3] 0 (st' := (stX .any 58 [(0, .list (l.map encQ)), (2, .int .i64 0), (3, .tuple [])] [])) (e := .normal) (ob := []) (by kernel_rfl) trivial ?_
  refine seq_n ?_
  refine Ok.seqP [true] (by kernel_rfl) ?_
  refine Ok.seqP [true, false] (by kernel_rfl) ?_
  refine Ok.evf (by kernel_rfl) 400 [.d] [0, 3] 0 (st' := (stX .any 58 [(0, .list (l.map encQ)), (3, .int .i64 0)] [])) (e := .normal) (ob := []) (by kernel_rfl) trivial ?_
  refine seq_n ?_
  refine Ok.blockP [true, false, true] 0 (by kernel_rfl) ?_
  refine Ok.loopB [true, false, true, false] (by kernel_rfl) (fun m_ s_ => ∃ (i : Nat), (i ≤ l.length) ∧ (∀ n, n < i → OkAt l n) ∧ m_ = l.length - i ∧ s_ = (stX .any 58 [(0, .list (l.map encQ)), (3, .int .i64 ((i : Nat) : Int))] [])) (l.length - 0) (⟨0, (by omega), fun n hn => by omega, rfl, rfl⟩) ?_
  rintro m_ s_ ⟨i, hi, hp, rfl, rfl⟩
  refine Ok.seqP [true, false, true, false, false] (by kernel_rfl) ?_
  refine Ok.seqP [true, false, true, false, false, false] (by kernel_rfl) ?_
  by_cases q1 : ((i : Nat) : Int) < (l.length : Int)
  · refine Ok.evf (by kernel_rfl) 400 [.d, .d, .v (.int .i64 (l.length : Int)), .v (.bool true)] [0, 2, 3, 8] 0 (st' := (stX .any 58 [(0, .list (l.map encQ)), (3, .int .i64 ((i : Nat) : Int)), (8, .bool true)] [])) (e := .normal) (ob := [(.int .i64 (((l.map encQ).length : Nat) : Int) : AV) = (.int .i64 (l.length : Int) : AV),
        (.bool (decide (((i : Nat) : Int) < (l.length : Int))) : AV) = (.bool true : AV)]) (by kernel_rfl) ⟨len_map, (bT q1), trivial⟩ ?_
    refine seq_n ?_
    refine Ok.evf (by kernel_rfl) 400 [.d] [0, 2, 3] 0 (st' := (stX .any 58 [(0, .list (l.map encQ)), (3, .int .i64 ((i : Nat) : Int))] [])) (e := .normal) (ob := []) (by kernel_rfl) trivial ?_
    refine seq_n ?_
    refine Ok.seqP [true, false, true, false, false, true] (by kernel_rfl) ?_
    refine Ok.blockP [true, false, true, false, false, true, false] 1 (by kernel_rfl) ?_
    refine Ok.seqP [true, false, true, false, false, true, false, false] (by kernel_rfl) ?_
    refine Ok.evf (by kernel_rfl) 400 [.d, .d, .e (encQ (l.getD i q0)), .d, .d, .d] [0, 2, 3, 4] 1 (st' := (stX .any 58 [(0, .list (l.map encQ)), (3, .int .i64 ((i : Nat) : Int)), (4, .ptr 0 0)] [.cells [.int .i64 ((l.getD i q0).kind), .int .i64 ((l.getD i q0).right), .int .i64 ((l.getD i q0).wrong)]])) (e := .normal) (ob := [0 ≤ ((i : Nat) : Int),
        (l.map encQ)[((i : Nat) : Int).toNat]? = some (encQ (l.getD i q0))]) (by kernel_rfl) ⟨(by omega), elemN (by omega) (by omega), trivial⟩ ?_
    refine seq_n ?_
    refine Ok.seqP [true, false, true, false, false, true, false, false, true] (by kernel_rfl) ?_
    by_cases q2 : ((l.getD i q0).kind) < 1
    · refine Ok.evf (by kernel_rfl) 400 [.d, .d, .v (.bool true), .d, .d, .d, .d, .d, .d, .d, .d, .d, .d, .d, .d, .d, .d, .d, .d, .d, .d, .d, .d, .d, .d, .d, .d, .d, .d, .d, .d, .d, .d, .d, .d, .d, .d, .d, .d, .d, .d, .d, .d] [0, 2, 3, 57] 1 (st' := (stX .any 58 [(0, .list (l.map encQ)), (3, .int .i64 ((i : Nat) : Int)), (57, .bool true)] [.cells [.int .i64 ((l.getD i q0).kind), .int .i64 ((l.getD i q0).right), .int .i64 ((l.getD i q0).wrong)]])) (e := .normal) (ob := [(.bool (decide (((l.getD i q0).kind) < 1)) : AV) = (.bool true : AV)]) (by kernel_rfl) ⟨(bT q2), trivial⟩ ?_
      refine seq_n ?_
      refine Ok.evf (by kernel_rfl) 400 [.d, .d] [2] 1 (st' := (stX .any 58 [(2, .int .i64 1)] [.cells [.int .i64 ((l.getD i q0).kind), .int .i64 ((l.getD i q0).right), .int .i64 ((l.getD i q0).wrong)]])) (e := .ret) (ob := []) (by kernel_rfl) trivial ?_
      refine blk_r ?_
      refine seq_r ?_
      refine loopg_r ?_
      refine blk_r ?_
      refine seq_r ?_
      exact ⟨.inr rfl, finF_of (ob := [(1 : Int) = rightE l]) (by kernel_rfl) ⟨(by first | (unfold rightE; rw [if_pos (show RightP l from fun n hn => hp n (by omega))]) | (unfold rightE; rw [if_neg (fun h : RightP l => by have h := h i (by omega); unfold OkAt at h; omega)])), trivial⟩⟩
    · by_cases q3 : ((l.getD i q0).kind) > 14
      · refine Ok.evf (by kernel_rfl) 400 [.d, .d, .v (.bool false), .d, .d, .d, .v (.bool true), .d, .d, .d, .d, .d, .d, .d, .d, .d, .d, .d, .d, .d, .d, .d, .d, .d, .d, .d, .d, .d, .d, .d, .d, .d, .d, .d, .d, .d, .d, .d, .d, .d, .d, .d, .d] [0, 2, 3, 57] 1 (st' := (stX .any 58 [(0, .list (l.map encQ)), (3, .int .i64 ((i : Nat) : Int)), (57, .bool true)] [.cells [.int .i64 ((l.getD i q0).kind), .int .i64 ((l.getD i q0).right), .int .i64 ((l.getD i q0).wrong)]])) (e := .normal) (ob := [(.bool (decide (((l.getD i q0).kind) < 1)) : AV) = (.bool false : AV),
        (.bool (decide (((l.getD i q0).kind) > 14)) : AV) = (.bool true : AV)]) (by kernel_rfl) ⟨(bF q2), (bT q3), trivial⟩ ?_
        refine seq_n ?_
        refine Ok.evf (by kernel_rfl) 400 [.d, .d] [2] 1 (st' := (stX .any 58 [(2, .int .i64 1)] [.cells [.int .i64 ((l.getD i q0).kind), .int .i64 ((l.getD i q0).right), .int .i64 ((l.getD i q0).wrong)]])) (e := .ret) (ob := []) (by kernel_rfl) trivial ?_
        refine blk_r ?_
        refine seq_r ?_
        refine loopg_r ?_
        refine blk_r ?_
        refine seq_r ?_
        exact ⟨.inr rfl, finF_of (ob := [(1 : Int) = rightE l]) (by kernel_rfl) ⟨(by first | (unfold rightE; rw [if_pos (show RightP l from fun n hn => hp n (by omega))]) | (unfold rightE; rw [if_neg (fun h : RightP l => by have h := h i (by omega); unfold OkAt at h; omega)])), trivial⟩⟩
      · by_cases q4 : ((l.getD i q0).right) < 0
        · refine Ok.evf (by kernel_rfl) 400 [.d, .d, .v (.bool false), .d, .d, .d, .v (.bool false), .d, .d, .d, .d, .v (.bool true), .d, .d, .d, .d, .d, .d, .d, .d, .d, .d, .d, .d, .d, .d, .d, .d, .d, .d, .d, .d, .d, .d, .d, .d, .d, .d, .d, .d, .d, .d, .d] [0, 2, 3, 57] 1 (st' := (stX .any 58 [(0, .list (l.map encQ)), (3, .int .i64 ((i : Nat) : Int)), (57, .bool true)] [.cells [.int .i64 ((l.getD i q0).kind), .int .i64 ((l.getD i q0).right), .int .i64 ((l.getD i q0).wrong)]])) (e := .normal) (ob := [(.bool (decide (((l.getD i q0).kind) < 1)) : AV) = (.bool false : AV),
        (.bool (decide (((l.getD i q0).kind) > 14)) : AV) = (.bool false : AV),
        (.bool (decide (((l.getD i q0).right) < 0)) : AV) = (.bool true : AV)]) (by kernel_rfl) ⟨(bF q2), (bF q3), (bT q4), trivial⟩ ?_
          refine seq_n ?_
          refine Ok.evf (by kernel_rfl) 400 [.d, .d] [2] 1 (st' := (stX .any 58 [(2, .int .i64 1)] [.cells [.int .i64 ((l.getD i q0).kind), .int .i64 ((l.getD i q0).right), .int .i64 ((l.getD i q0).wrong)]])) (e := .ret) (ob := []) (by kernel_rfl) trivial ?_
          refine blk_r ?_
          refine seq_r ?_
          refine loopg_r ?_
          refine blk_r ?_
          refine seq_r ?_
          exact ⟨.inr rfl, finF_of (ob := [(1 : Int) = rightE l]) (by kernel_rfl) ⟨(by first | (unfold rightE; rw [if_pos (show RightP l from fun n hn => hp n (by omega))]) | (unfold rightE; rw [if_neg (fun h : RightP l => by have h := h i (by omega); unfold OkAt at h; omega)])), trivial⟩⟩
        · by_cases q5 : ((l.getD i q0).right) > 1073741824
          · refine Ok.evf (by kernel_rfl) 400 [.d, .d, .v (.bool false), .d, .d, .d, .v (.bool false), .d, .d, .d, .d, .v (.bool false), .d, .d, .d, .d, .v (.bool true), .d, .d, .d, .d, .d, .d, .d, .d, .d, .d, .d, .d, .d, .d, .d, .d, .d, .d, .d, .d, .d, .d, .d, .d, .d, .d] [0, 2, 3, 57] 1 (st' := (stX .any 58 [(0, .list (l.map encQ)), (3, .int .i64 ((i : Nat) : Int)), (57, .bool true)] [.cells [.int .i64 ((l.getD i q0).kind), .int .i64 ((l.getD i q0).right), .int .i64 ((l.getD i q0).wrong)]])) (e := .normal) (ob := [(.bool (decide (((l.getD i q0).kind) < 1)) : AV) = (.bool false : AV),
        (.bool (decide (((l.getD i q0).kind) > 14)) : AV) = (.bool false : AV),
        (.bool (decide (((l.getD i q0).right) < 0)) : AV) = (.bool false : AV),
        (.bool (decide (((l.getD i q0).right) > 1073741824)) : AV) = (.bool true : AV)]) (by kernel_rfl) ⟨(bF q2), (bF q3), (bF q4), (bT q5), trivial⟩ ?_
            refine seq_n ?_
            refine Ok.evf (by kernel_rfl) 400 [.d, .d] [2] 1 (st' := (stX .any 58 [(2, .int .i64 1)] [.cells [.int .i64 ((l.getD i q0).kind), .int .i64 ((l.getD i q0).right), .int .i64 ((l.getD i q0).wrong)]])) (e := .ret) (ob := []) (by kernel_rfl) trivial ?_
            refine blk_r ?_
            refine seq_r ?_
            refine loopg_r ?_
            refine blk_r ?_
            refine seq_r ?_
            exact ⟨.inr rfl, finF_of (ob := [(1 : Int) = rightE l]) (by kernel_rfl) ⟨(by first | (unfold rightE; rw [if_pos (show RightP l from fun n hn => hp n (by omega))]) | (unfold rightE; rw [if_neg (fun h : RightP l => by have h := h i (by omega); unfold OkAt at h; omega)])), trivial⟩⟩
          · by_cases q6 : ((l.getD i q0).wrong) < 0
            · refine Ok.evf (by kernel_rfl) 400 [.d, .d, .v (.bool false), .d, .d, .d, .v (.bool false), .d, .d, .d, .d, .v (.bool false), .d, .d, .d, .d, .v (.bool false), .d, .d, .d, .d, .v (.bool true), .d, .d, .d, .d, .d, .d, .d, .d, .d, .d, .d, .d, .d, .d, .d, .d, .d, .d, .d, .d, .d] [0, 2, 3, 57] 1 (st' := (stX .any 58 [(0, .list (l.map encQ)), (3, .int .i64 ((i : Nat) : Int)), (57, .bool true)] [.cells [.int .i64 ((l.getD i q0).kind), .int .i64 ((l.getD i q0).right), .int .i64 ((l.getD i q0).wrong)]])) (e := .normal) (ob := [(.bool (decide (((l.getD i q0).kind) < 1)) : AV) = (.bool false : AV),
        (.bool (decide (((l.getD i q0).kind) > 14)) : AV) = (.bool false : AV),
        (.bool (decide (((l.getD i q0).right) < 0)) : AV) = (.bool false : AV),
        (.bool (decide (((l.getD i q0).right) > 1073741824)) : AV) = (.bool false : AV),
        (.bool (decide (((l.getD i q0).wrong) < 0)) : AV) = (.bool true : AV)]) (by kernel_rfl) ⟨(bF q2), (bF q3), (bF q4), (bF q5), (bT q6), trivial⟩ ?_
              refine seq_n ?_
              refine Ok.evf (by kernel_rfl) 400 [.d, .d] [2] 1 (st' := (stX .any 58 [(2, .int .i64 1)] [.cells [.int .i64 ((l.getD i q0).kind), .int .i64 ((l.getD i q0).right), .int .i64 ((l.getD i q0).wrong)]])) (e := .ret) (ob := []) (by kernel_rfl) trivial ?_
              refine blk_r ?_
              refine seq_r ?_
              refine loopg_r ?_
              refine blk_r ?_
              refine seq_r ?_
              exact ⟨.inr rfl, finF_of (ob := [(1 : Int) = rightE l]) (by kernel_rfl) ⟨(by first | (unfold rightE; rw [if_pos (show RightP l from fun n hn => hp n (by omega))]) | (unfold rightE; rw [if_neg (fun h : RightP l => by have h := h i (by omega); unfold OkAt at h; omega)])), trivial⟩⟩
            · by_cases q7 : ((l.getD i q0).wrong) > 1073741824
              · refine Ok.evf (by kernel_rfl) 400 [.d, .d, .v (.bool false), .d, .d, .d, .v (.bool false), .d, .d, .d, .d, .v (.bool false), .d, .d, .d, .d, .v (.bool false), .d, .d, .d, .d, .v (.bool false), .d, .d, .d, .d, .v (.bool true), .d, .d, .d, .d, .d, .d, .d, .d, .d, .d, .d, .d, .d, .d, .d, .d] [0, 2, 3, 57] 1 (st' := (stX .any 58 [(0, .list (l.map encQ)), (3, .int .i64 ((i : Nat) : Int)), (57, .bool true)] [.cells [.int .i64 ((l.getD i q0).kind), .int .i64 ((l.getD i q0).right), .int .i64 ((l.getD i q0).wrong)]])) (e := .normal) (ob := [(.bool (decide (((l.getD i q0).kind) < 1)) : AV) = (.bool false : AV),
        (.bool (decide (((l.getD i q0).kind) > 14)) : AV) = (.bool false : AV),
        (.bool (decide (((l.getD i q0).right) < 0)) : AV) = (.bool false : AV),
        (.bool (decide (((l.getD i q0).right) > 1073741824)) : AV) = (.bool false : AV),
        (.bool (decide (((l.getD i q0).wrong) < 0)) : AV) = (.bool false : AV),
        (.bool (decide (((l.getD i q0).wrong) > 1073741824)) : AV) = (.bool true : AV)]) (by kernel_rfl) ⟨(bF q2), (bF q3), (bF q4), (bF q5), (bF q6), (bT q7), trivial⟩ ?_
                refine seq_n ?_
                refine Ok.evf (by kernel_rfl) 400 [.d, .d] [2] 1 (st' := (stX .any 58 [(2, .int .i64 1)] [.cells [.int .i64 ((l.getD i q0).kind), .int .i64 ((l.getD i q0).right), .int .i64 ((l.getD i q0).wrong)]])) (e := .ret) (ob := []) (by kernel_rfl) trivial ?_
                refine blk_r ?_
                refine seq_r ?_
                refine loopg_r ?_
                refine blk_r ?_
                refine seq_r ?_
                exact ⟨.inr rfl, finF_of (ob := [(1 : Int) = rightE l]) (by kernel_rfl) ⟨(by first | (unfold rightE; rw [if_pos (show RightP l from fun n hn => hp n (by omega))]) | (unfold rightE; rw [if_neg (fun h : RightP l => by have h := h i (by omega); unfold OkAt at h; omega)])), trivial⟩⟩
              · by_cases q8 : ((i : Nat) : Int) > 0
                · by_cases q9 : ((l.getD (i - 1) q0).kind) ≥ ((l.getD i q0).kind)
                  · refine Ok.evf (by kernel_rfl) 400 [.d, .d, .v (.bool false), .d, .d, .d, .v (.bool false), .d, .d, .d, .d, .v (.bool false), .d, .d, .d, .d, .v (.bool false), .d, .d, .d, .d, .v (.bool false), .d, .d, .d, .d, .v (.bool false), .d, .d, .d, .v (.bool true), .d, .d, .d, .v (.int .i64 (((i : Nat) : Int) - 1)), .e (encQ (l.getD (i - 1) q0)), .d, .d, .d, .d, .v (.bool true), .d, .d] [0, 2, 3, 57] 1 (st' := (stX .any 58 [(0, .list (l.map encQ)), (3, .int .i64 ((i : Nat) : Int)), (57, .bool true)] [.cells [.int .i64 ((l.getD i q0).kind), .int .i64 ((l.getD i q0).right), .int .i64 ((l.getD i q0).wrong)]])) (e := .normal) (ob := [(.bool (decide (((l.getD i q0).kind) < 1)) : AV) = (.bool false : AV),
        (.bool (decide (((l.getD i q0).kind) > 14)) : AV) = (.bool false : AV),
        (.bool (decide (((l.getD i q0).right) < 0)) : AV) = (.bool false : AV),
        (.bool (decide (((l.getD i q0).right) > 1073741824)) : AV) = (.bool false : AV),
        (.bool (decide (((l.getD i q0).wrong) < 0)) : AV) = (.bool false : AV),
        (.bool (decide (((l.getD i q0).wrong) > 1073741824)) : AV) = (.bool false : AV),
        (.bool (decide (((i : Nat) : Int) > 0)) : AV) = (.bool true : AV),
        (.int .i64 (IntKind.wrap .i64 (((i : Nat) : Int) - 1)) : AV) = (.int .i64 (((i : Nat) : Int) - 1) : AV),
        0 ≤ ((i : Nat) : Int) - 1,
        (l.map encQ)[(((i : Nat) : Int) - 1).toNat]? = some (encQ (l.getD (i - 1) q0)),
        (.bool (decide (((l.getD (i - 1) q0).kind) ≥ ((l.getD i q0).kind))) : AV) = (.bool true : AV)]) (by kernel_rfl) ⟨(bF q2), (bF q3), (bF q4), (bF q5), (bF q6), (bF q7), (bT q8), iW (w64 (by omega) (by omega)), (by omega), elemN (by omega) (by omega), (bT q9), trivial⟩ ?_
                    refine seq_n ?_
                    refine Ok.evf (by kernel_rfl) 400 [.d, .d] [2] 1 (st' := (stX .any 58 [(2, .int .i64 1)] [.cells [.int .i64 ((l.getD i q0).kind), .int .i64 ((l.getD i q0).right), .int .i64 ((l.getD i q0).wrong)]])) (e := .ret) (ob := []) (by kernel_rfl) trivial ?_
                    refine blk_r ?_
                    refine seq_r ?_
                    refine loopg_r ?_
                    refine blk_r ?_
                    refine seq_r ?_
                    exact ⟨.inr rfl, finF_of (ob := [(1 : Int) = rightE l]) (by kernel_rfl) ⟨(by first | (unfold rightE; rw [if_pos (show RightP l from fun n hn => hp n (by omega))]) | (unfold rightE; rw [if_neg (fun h : RightP l => by have h := h i (by omega); unfold OkAt at h; omega)])), trivial⟩⟩
                  · refine Ok.evf (by kernel_rfl) 400 [.d, .d, .v (.bool false), .d, .d, .d, .v (.bool false), .d, .d, .d, .d, .v (.bool false), .d, .d, .d, .d, .v (.bool false), .d, .d, .d, .d, .v (.bool false), .d, .d, .d, .d, .v (.bool false), .d, .d, .d, .v (.bool true), .d, .d, .d, .v (.int .i64 (((i : Nat) : Int) - 1)), .e (encQ (l.getD (i - 1) q0)), .d, .d, .d, .d, .v (.bool false), .d, .d] [0, 2, 3, 57] 1 (st' := (stX .any 58 [(0, .list (l.map encQ)), (3, .int .i64 ((i : Nat) : Int)), (57, .bool false)] [.cells [.int .i64 ((l.getD i q0).kind), .int .i64 ((l.getD i q0).right), .int .i64 ((l.getD i q0).wrong)]])) (e := .normal) (ob := [(.bool (decide (((l.getD i q0).kind) < 1)) : AV) = (.bool false : AV),
        (.bool (decide (((l.getD i q0).kind) > 14)) : AV) = (.bool false : AV),
        (.bool (decide (((l.getD i q0).right) < 0)) : AV) = (.bool false : AV),
        (.bool (decide (((l.getD i q0).right) > 1073741824)) : AV) = (.bool false : AV),
        (.bool (decide (((l.getD i q0).wrong) < 0)) : AV) = (.bool false : AV),
        (.bool (decide (((l.getD i q0).wrong) > 1073741824)) : AV) = (.bool false : AV),
        (.bool (decide (((i : Nat) : Int) > 0)) : AV) = (.bool true : AV),
        (.int .i64 (IntKind.wrap .i64 (((i : Nat) : Int) - 1)) : AV) = (.int .i64 (((i : Nat) : Int) - 1) : AV),
        0 ≤ ((i : Nat) : Int) - 1,
        (l.map encQ)[(((i : Nat) : Int) - 1).toNat]? = some (encQ (l.getD (i - 1) q0)),
        (.bool (decide (((l.getD (i - 1) q0).kind) ≥ ((l.getD i q0).kind))) : AV) = (.bool false : AV)]) (by kernel_rfl) ⟨(bF q2), (bF q3), (bF q4), (bF q5), (bF q6), (bF q7), (bT q8), iW (w64 (by omega) (by omega)), (by omega), elemN (by omega) (by omega), (bF q9), trivial⟩ ?_
                    refine seq_n ?_
                    refine Ok.evf (by kernel_rfl) 400 [.d] [0, 2, 3] 1 (st' := (stX .any 58 [(0, .list (l.map encQ)), (3, .int .i64 ((i : Nat) : Int))] [.cells [.int .i64 ((l.getD i q0).kind), .int .i64 ((l.getD i q0).right), .int .i64 ((l.getD i q0).wrong)]])) (e := .normal) (ob := []) (by kernel_rfl) trivial ?_
                    refine blk_n ?_
                    refine seq_n ?_
                    refine Ok.evf (by kernel_rfl) 400 [.d, .v (.int .i64 (((i : Nat) : Int) + 1)), .d] [0, 3] 1 (st' := (stX .any 58 [(0, .list (l.map encQ)), (3, .int .i64 (((i : Nat) : Int) + 1))] [.cells [.int .i64 ((l.getD i q0).kind), .int .i64 ((l.getD i q0).right), .int .i64 ((l.getD i q0).wrong)]])) (e := .normal) (ob := [(.int .i64 (IntKind.wrap .i64 (((i : Nat) : Int) + 1)) : AV) = (.int .i64 (((i : Nat) : Int) + 1) : AV)]) (by kernel_rfl) ⟨iW (w64 (by omega) (by omega)), trivial⟩ ?_
                    exact loop_g [0, 3] 0 (l.length - (i + 1)) (by omega) rfl (s' := (stX .any 58 [(0, .list (l.map encQ)), (3, .int .i64 (((i : Nat) : Int) + 1))] [])) (ob := []) (by kernel_rfl) trivial (⟨(i + 1), (by omega), upto_step hp (by unfold OkAt; omega), rfl, rfl⟩)
                · refine Ok.evf (by kernel_rfl) 400 [.d, .d, .v (.bool false), .d, .d, .d, .v (.bool false), .d, .d, .d, .d, .v (.bool false), .d, .d, .d, .d, .v (.bool false), .d, .d, .d, .d, .v (.bool false), .d, .d, .d, .d, .v (.bool false), .d, .d, .d, .v (.bool false), .d, .d, .d, .d, .d, .d, .d, .d, .d, .d, .d, .d] [0, 2, 3, 57] 1 (st' := (stX .any 58 [(0, .list (l.map encQ)), (3, .int .i64 ((i : Nat) : Int)), (57, .bool false)] [.cells [.int .i64 ((l.getD i q0).kind), .int .i64 ((l.getD i q0).right), .int .i64 ((l.getD i q0).wrong)]])) (e := .normal) (ob := [(.bool (decide (((l.getD i q0).kind) < 1)) : AV) = (.bool false : AV),
        (.bool (decide (((l.getD i q0).kind) > 14)) : AV) = (.bool false : AV),
        (.bool (decide (((l.getD i q0).right) < 0)) : AV) = (.bool false : AV),
        (.bool (decide (((l.getD i q0).right) > 1073741824)) : AV) = (.bool false : AV),
        (.bool (decide (((l.getD i q0).wrong) < 0)) : AV) = (.bool false : AV),
        (.bool (decide (((l.getD i q0).wrong) > 1073741824)) : AV) = (.bool false : AV),
        (.bool (decide (((i : Nat) : Int) > 0)) : AV) = (.bool false : AV)]) (by kernel_rfl) ⟨(bF q2), (bF q3), (bF q4), (bF q5), (bF q6), (bF q7), (bF q8), trivial⟩ ?_
                  refine seq_n ?_
                  refine Ok.evf (by kernel_rfl) 400 [.d] [0, 2, 3] 1 (st' := (stX .any 58 [(0, .list (l.map encQ)), (3, .int .i64 ((i : Nat) : Int))] [.cells [.int .i64 ((l.getD i q0).kind), .int .i64 ((l.getD i q0).right), .int .i64 ((l.getD i q0).wrong)]])) (e := .normal) (ob := []) (by kernel_rfl) trivial ?_
                  refine blk_n ?_
                  refine seq_n ?_
                  refine Ok.evf (by kernel_rfl) 400 [.d, .v (.int .i64 (((i : Nat) : Int) + 1)), .d] [0, 3] 1 (st' := (stX .any 58 [(0, .list (l.map encQ)), (3, .int .i64 (((i : Nat) : Int) + 1))] [.cells [.int .i64 ((l.getD i q0).kind), .int .i64 ((l.getD i q0).right), .int .i64 ((l.getD i q0).wrong)]])) (e := .normal) (ob := [(.int .i64 (IntKind.wrap .i64 (((i : Nat) : Int) + 1)) : AV) = (.int .i64 (((i : Nat) : Int) + 1) : AV)]) (by kernel_rfl) ⟨iW (w64 (by omega) (by omega)), trivial⟩ ?_
                  exact loop_g [0, 3] 0 (l.length - (i + 1)) (by omega) rfl (s' := (stX .any 58 [(0, .list (l.map encQ)), (3, .int .i64 (((i : Nat) : Int) + 1))] [])) (ob := []) (by kernel_rfl) trivial (⟨(i + 1), (by omega), upto_step hp (by unfold OkAt; omega), rfl, rfl⟩)
  · refine Ok.evf (by kernel_rfl) 400 [.d, .d, .v (.int .i64 (l.length : Int)), .v (.bool false)] [0, 2, 3, 8] 0 (st' := (stX .any 58 [(0, .list (l.map encQ)), (3, .int .i64 ((i : Nat) : Int)), (8, .bool false)] [])) (e := .normal) (ob := [(.int .i64 (((l.map encQ).length : Nat) : Int) : AV) = (.int .i64 (l.length : Int) : AV),
        (.bool (decide (((i : Nat) : Int) < (l.length : Int))) : AV) = (.bool false : AV)]) (by kernel_rfl) ⟨len_map, (bF q1), trivial⟩ ?_
    refine seq_n ?_
    refine Ok.evf (by kernel_rfl) 400 [.d] [2] 0 (st' := (stX .any 58 [] [])) (e := (.exit 0)) (ob := []) (by kernel_rfl) trivial ?_
    refine seq_e ?_
    refine loopg_e ?_
    refine blkQ_here ?_
    refine seq_n ?_
    refine Ok.evf (by kernel_rfl) 400 [.d] [2] 0 (st' := (stX .any 58 [(2, .int .i64 0)] [])) (e := .ret) (ob := []) (by kernel_rfl) trivial ?_
    exact ⟨.inr rfl, finF_of (ob := [(0 : Int) = rightE l]) (by kernel_rfl) ⟨(by first | (unfold rightE; rw [if_pos (show RightP l from fun n hn => hp n (by omega))]) | (unfold rightE; rw [if_neg (fun h : RightP l => by have h := h i (by omega); unfold OkAt at h; omega)])), trivial⟩⟩

end Go.Proofs.Ytlhmionefjopiaa
