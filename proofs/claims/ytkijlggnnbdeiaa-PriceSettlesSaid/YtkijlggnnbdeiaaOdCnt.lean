/- Counts, losses and the reference -/
import Derived.Test.YtkijlggnnbdeiaaOdCntM
import Derived.Test.YtkijlggnnbdeiaaProg
set_option linter.unusedVariables false
set_option linter.unusedSimpArgs false
namespace Go.Proofs.Ytkijlggnnbdeiaa
open Go.RowKit
set_option maxRecDepth 100000
theorem od_counts {l : List An} {k : Int} (hl : l.length < 1000000) : FnF Try.prog 81 true [.list (l.map encQ), .int .i64 k] (.tuple [encQ (cntQ l k), .bool ((lk l k).isSome)]) := by
  refine fn_walkF Try.func81 (by kernel_rfl) (by kernel_rfl) (by kernel_rfl) (st := (stX (.tuple []) 26 [(0, .list (l.map encQ)), (1, .int .i64 k)] [])) rfl ?_
  refine Ok.seqP [] (by kernel_rfl) ?_
  refine Ok.evf (by kernel_rfl) 400 [.d, .d] [0, 1, 4, 5, 6] 1 (st' := (stX .any 26 [(0, .list (l.map encQ)), (1, .int .i64 k), (4, .ptr 0 0), (5, .bool false), (6, .tuple [])] [.cells [.int .i64 0, .int .i64 0, .int .i64 0]])) (e := .normal) (ob := []) (by kernel_rfl) trivial ?_
  refine seq_n ?_
  refine Ok.seqP [true] (by kernel_rfl) ?_
  refine Ok.seqP [true, false] (by kernel_rfl) ?_
  refine Ok.evf (by kernel_rfl) 400 [.d] [0, 1, 4, 6] 1 (st' := (stX .any 26 [(0, .list (l.map encQ)), (1, .int .i64 k), (4, .ptr 0 0), (6, .int .i64 0)] [.cells [.int .i64 0, .int .i64 0, .int .i64 0]])) (e := .normal) (ob := []) (by kernel_rfl) trivial ?_
  refine seq_n ?_
  refine Ok.blockP [true, false, true] 0 (by kernel_rfl) ?_
  refine Ok.loopB [true, false, true, false] (by kernel_rfl) (fun m_ s_ => ∃ (i : Nat), (i ≤ l.length) ∧ (∀ j, j < i → ¬ (l.getD j q0).kind = k) ∧ m_ = l.length - i ∧ s_ = (stX .any 26 [(0, .list (l.map encQ)), (1, .int .i64 k), (4, .ptr 0 0), (6, .int .i64 ((i : Nat) : Int))] [.cells [.int .i64 0, .int .i64 0, .int .i64 0]])) (l.length - 0) (⟨0, (by omega), fun j hj => by omega, rfl, rfl⟩) ?_
  rintro m_ s_ ⟨i, hi, hno, rfl, rfl⟩
  refine Ok.seqP [true, false, true, false, false] (by kernel_rfl) ?_
  refine Ok.seqP [true, false, true, false, false, false] (by kernel_rfl) ?_
  by_cases q1 : ((i : Nat) : Int) < (l.length : Int)
  · refine Ok.evf (by kernel_rfl) 400 [.d, .d, .v (.int .i64 (l.length : Int)), .v (.bool true)] [0, 1, 4, 5, 6, 10] 1 (st' := (stX .any 26 [(0, .list (l.map encQ)), (1, .int .i64 k), (4, .ptr 0 0), (6, .int .i64 ((i : Nat) : Int)), (10, .bool true)] [.cells [.int .i64 0, .int .i64 0, .int .i64 0]])) (e := .normal) (ob := [(.int .i64 (((l.map encQ).length : Nat) : Int) : AV) = (.int .i64 (l.length : Int) : AV),
        (.bool (decide (((i : Nat) : Int) < (l.length : Int))) : AV) = (.bool true : AV)]) (by kernel_rfl) ⟨len_map, (bT q1), trivial⟩ ?_
    refine seq_n ?_
    refine Ok.evf (by kernel_rfl) 400 [.d] [0, 1, 4, 5, 6] 1 (st' := (stX .any 26 [(0, .list (l.map encQ)), (1, .int .i64 k), (4, .ptr 0 0), (6, .int .i64 ((i : Nat) : Int))] [.cells [.int .i64 0, .int .i64 0, .int .i64 0]])) (e := .normal) (ob := []) (by kernel_rfl) trivial ?_
    refine seq_n ?_
    refine Ok.seqP [true, false, true, false, false, true] (by kernel_rfl) ?_
    refine Ok.blockP [true, false, true, false, false, true, false] 1 (by kernel_rfl) ?_
    refine Ok.seqP [true, false, true, false, false, true, false, false] (by kernel_rfl) ?_
    by_cases q2 : ((l.getD i q0).kind) = k
    · refine Ok.evf (by kernel_rfl) 400 [.d, .d, .e (encQ (l.getD i q0)), .d, .d, .d, .v (.bool true)] [0, 1, 4, 5, 6, 19] 1 (st' := (stX .any 26 [(0, .list (l.map encQ)), (1, .int .i64 k), (4, .ptr 0 0), (6, .int .i64 ((i : Nat) : Int)), (19, .bool true)] [.cells [.int .i64 0, .int .i64 0, .int .i64 0]])) (e := .normal) (ob := [0 ≤ ((i : Nat) : Int),
        (l.map encQ)[((i : Nat) : Int).toNat]? = some (encQ (l.getD i q0)),
        (.bool (((l.getD i q0).kind) == k) : AV) = (.bool true : AV)]) (by kernel_rfl) ⟨(by omega), elemN (by omega) (by omega), (eT q2), trivial⟩ ?_
      refine seq_n ?_
      refine Ok.evf (by kernel_rfl) 400 [.d, .d, .d, .e (encQ (l.getD i q0)), .d, .d, .d] [4, 5] 1 (st' := (stX .any 26 [(4, .ptr 0 0), (5, .bool true)] [.cells [.int .i64 ((l.getD i q0).kind), .int .i64 ((l.getD i q0).right), .int .i64 ((l.getD i q0).wrong)]])) (e := .ret) (ob := [0 ≤ ((i : Nat) : Int),
        (l.map encQ)[((i : Nat) : Int).toNat]? = some (encQ (l.getD i q0))]) (by kernel_rfl) ⟨(by omega), elemN (by omega) (by omega), trivial⟩ ?_
      refine blk_r ?_
      refine seq_r ?_
      refine loopg_r ?_
      refine blk_r ?_
      refine seq_r ?_
      exact ⟨.inr rfl, finF_of (ob := [((l.getD i q0).kind : Int) = (cntQ l k).kind,
        ((l.getD i q0).right : Int) = (cntQ l k).right,
        ((l.getD i q0).wrong : Int) = (cntQ l k).wrong,
        (true : Bool) = ((lk l k).isSome)]) (by kernel_rfl) ⟨(by first | (rw [cntQ, lk_at (by omega) hno (by omega)]; rfl) | (rw [lk_at (by omega) hno (by omega)]; rfl) | (rw [cntQ, lk_no (fun j hj => hno j (by omega))]; rfl) | (rw [lk_no (fun j hj => hno j (by omega))]; rfl)), (by first | (rw [cntQ, lk_at (by omega) hno (by omega)]; rfl) | (rw [lk_at (by omega) hno (by omega)]; rfl) | (rw [cntQ, lk_no (fun j hj => hno j (by omega))]; rfl) | (rw [lk_no (fun j hj => hno j (by omega))]; rfl)), (by first | (rw [cntQ, lk_at (by omega) hno (by omega)]; rfl) | (rw [lk_at (by omega) hno (by omega)]; rfl) | (rw [cntQ, lk_no (fun j hj => hno j (by omega))]; rfl) | (rw [lk_no (fun j hj => hno j (by omega))]; rfl)), (by first | (rw [cntQ, lk_at (by omega) hno (by omega)]; rfl) | (rw [lk_at (by omega) hno (by omega)]; rfl) | (rw [cntQ, lk_no (fun j hj => hno j (by omega))]; rfl) | (rw [lk_no (fun j hj => hno j (by omega))]; rfl)), trivial⟩⟩
    · refine Ok.evf (by kernel_rfl) 400 [.d, .d, .e (encQ (l.getD i q0)), .d, .d, .d, .v (.bool false)] [0, 1, 4, 5, 6, 19] 1 (st' := (stX .any 26 [(0, .list (l.map encQ)), (1, .int .i64 k), (4, .ptr 0 0), (6, .int .i64 ((i : Nat) : Int)), (19, .bool false)] [.cells [.int .i64 0, .int .i64 0, .int .i64 0]])) (e := .normal) (ob := [0 ≤ ((i : Nat) : Int),
        (l.map encQ)[((i : Nat) : Int).toNat]? = some (encQ (l.getD i q0)),
        (.bool (((l.getD i q0).kind) == k) : AV) = (.bool false : AV)]) (by kernel_rfl) ⟨(by omega), elemN (by omega) (by omega), (eF q2), trivial⟩ ?_
      refine seq_n ?_
      refine Ok.evf (by kernel_rfl) 400 [.d] [0, 1, 4, 5, 6] 1 (st' := (stX .any 26 [(0, .list (l.map encQ)), (1, .int .i64 k), (4, .ptr 0 0), (6, .int .i64 ((i : Nat) : Int))] [.cells [.int .i64 0, .int .i64 0, .int .i64 0]])) (e := .normal) (ob := []) (by kernel_rfl) trivial ?_
      refine blk_n ?_
      refine seq_n ?_
      refine Ok.evf (by kernel_rfl) 400 [.d, .v (.int .i64 (((i : Nat) : Int) + 1)), .d] [0, 1, 4, 6] 1 (st' := (stX .any 26 [(0, .list (l.map encQ)), (1, .int .i64 k), (4, .ptr 0 0), (6, .int .i64 (((i : Nat) : Int) + 1))] [.cells [.int .i64 0, .int .i64 0, .int .i64 0]])) (e := .normal) (ob := [(.int .i64 (IntKind.wrap .i64 (((i : Nat) : Int) + 1)) : AV) = (.int .i64 (((i : Nat) : Int) + 1) : AV)]) (by kernel_rfl) ⟨iW (w64 (by omega) (by omega)), trivial⟩ ?_
      exact loop_g [0, 1, 4, 6] 1 (l.length - (i + 1)) (by omega) rfl (s' := (stX .any 26 [(0, .list (l.map encQ)), (1, .int .i64 k), (4, .ptr 0 0), (6, .int .i64 (((i : Nat) : Int) + 1))] [.cells [.int .i64 0, .int .i64 0, .int .i64 0]])) (ob := []) (by kernel_rfl) trivial (⟨(i + 1), (by omega), upto_step hno (by omega), rfl, rfl⟩)
  · refine Ok.evf (by kernel_rfl) 400 [.d, .d, .v (.int .i64 (l.length : Int)), .v (.bool false)] [0, 1, 4, 5, 6, 10] 1 (st' := (stX .any 26 [(0, .list (l.map encQ)), (1, .int .i64 k), (4, .ptr 0 0), (6, .int .i64 ((i : Nat) : Int)), (10, .bool false)] [.cells [.int .i64 0, .int .i64 0, .int .i64 0]])) (e := .normal) (ob := [(.int .i64 (((l.map encQ).length : Nat) : Int) : AV) = (.int .i64 (l.length : Int) : AV),
        (.bool (decide (((i : Nat) : Int) < (l.length : Int))) : AV) = (.bool false : AV)]) (by kernel_rfl) ⟨len_map, (bF q1), trivial⟩ ?_
    refine seq_n ?_
    refine Ok.evf (by kernel_rfl) 400 [.d] [1, 4, 5] 1 (st' := (stX .any 26 [(1, .int .i64 k), (4, .ptr 0 0)] [.cells [.int .i64 0, .int .i64 0, .int .i64 0]])) (e := (.exit 0)) (ob := []) (by kernel_rfl) trivial ?_
    refine seq_e ?_
    refine loopg_e ?_
    refine blkQ_here ?_
    refine seq_n ?_
    refine Ok.evf (by kernel_rfl) 400 [.d, .d, .d, .d] [4, 5] 1 (st' := (stX .any 26 [(4, .ptr 0 0), (5, .bool false)] [.cells [.int .i64 k, .int .i64 0, .int .i64 0]])) (e := .ret) (ob := []) (by kernel_rfl) trivial ?_
    exact ⟨.inr rfl, finF_of (ob := [(k : Int) = (cntQ l k).kind,
        (0 : Int) = (cntQ l k).right,
        (0 : Int) = (cntQ l k).wrong,
        (false : Bool) = ((lk l k).isSome)]) (by kernel_rfl) ⟨(by first | (rw [cntQ, lk_at (by omega) hno (by omega)]; rfl) | (rw [lk_at (by omega) hno (by omega)]; rfl) | (rw [cntQ, lk_no (fun j hj => hno j (by omega))]; rfl) | (rw [lk_no (fun j hj => hno j (by omega))]; rfl)), (by first | (rw [cntQ, lk_at (by omega) hno (by omega)]; rfl) | (rw [lk_at (by omega) hno (by omega)]; rfl) | (rw [cntQ, lk_no (fun j hj => hno j (by omega))]; rfl) | (rw [lk_no (fun j hj => hno j (by omega))]; rfl)), (by first | (rw [cntQ, lk_at (by omega) hno (by omega)]; rfl) | (rw [lk_at (by omega) hno (by omega)]; rfl) | (rw [cntQ, lk_no (fun j hj => hno j (by omega))]; rfl) | (rw [lk_no (fun j hj => hno j (by omega))]; rfl)), (by first | (rw [cntQ, lk_at (by omega) hno (by omega)]; rfl) | (rw [lk_at (by omega) hno (by omega)]; rfl) | (rw [cntQ, lk_no (fun j hj => hno j (by omega))]; rfl) | (rw [lk_no (fun j hj => hno j (by omega))]; rfl)), trivial⟩⟩

theorem od_order {l : List An} {x : An} {k : Int}  : FnF Try.prog 101 true [.list (l.map encQ), encQ x, .int .i64 k] (.int .i64 (IntKind.wrap .i64 (x.kind - k))) := by
  exact fn_evF (by kernel_rfl) Try.func101 (by kernel_rfl) 400 [.d, .d, .d, .d, .d, .d, .d] (by kernel_rfl) (ob := [(IntKind.wrap .i64 (x.kind - k) : Int) = IntKind.wrap .i64 (x.kind - k)]) (by kernel_rfl) ⟨rfl, trivial⟩

def sP_od_bs (l : List An) (k : Int) : List (Nat × AV) := [(0, .list (l.map encQ)), (1, .int .i64 k), (2, .func (.func 101) [.list (l.map encQ)] []), (6, .int .i64 0), (7, .bool false), (8, .int .i64 (l.length : Int))]
theorem od_bs {l : List An} {k : Int} (hl : l.length < 1000000) : FnF Try.prog 100 true [.list (l.map encQ), .int .i64 k, .func (.func 101) [.list (l.map encQ)] []] (.tuple [.int .i64 ((bsQ l k : Nat) : Int), .bool (decide (bsQ l k < l.length) && decide (IntKind.wrap .i64 ((l.getD (bsQ l k) q0).kind - k) = 0))]) := by
  refine fn_walkF Try.func100 (by kernel_rfl) (by kernel_rfl) (by kernel_rfl) (st := (stX (.tuple []) 49 [(0, .list (l.map encQ)), (1, .int .i64 k), (2, .func (.func 101) [.list (l.map encQ)] [])] [])) rfl ?_
  refine Ok.seqP [] (by kernel_rfl) ?_
  refine Ok.evf (by kernel_rfl) 400 [.d, .d] [0, 1, 2, 6, 7, 8] 0 (st' := (stX .any 49 [(0, .list (l.map encQ)), (1, .int .i64 k), (2, .func (.func 101) [.list (l.map encQ)] []), (6, .int .i64 0), (7, .bool false), (8, .tuple [])] [])) (e := .normal) (ob := []) (by kernel_rfl) trivial ?_
  refine seq_n ?_
  refine Ok.seqP [true] (by kernel_rfl) ?_
  refine Ok.evf (by kernel_rfl) 400 [.d, .v (.int .i64 (l.length : Int)), .d] [0, 1, 2, 6, 7, 8, 9, 10] 0 (st' := (stX .any 49 (sP_od_bs l k) [])) (e := .normal) (ob := [(.int .i64 (((l.map encQ).length : Nat) : Int) : AV) = (.int .i64 (l.length : Int) : AV)]) (by kernel_rfl) ⟨len_map, trivial⟩ ?_
  refine seq_n ?_
  refine Ok.seqP [true, true] (by kernel_rfl) ?_
  refine Ok.evf (by kernel_rfl) 400 [.d, .d, .d] [0, 1, 2, 6, 7, 8, 9, 10] 0 (st' := (stX .any 49 ((sP_od_bs l k) ++ [(9, .int .i64 0), (10, .int .i64 (l.length : Int))]) [])) (e := .normal) (ob := []) (by kernel_rfl) trivial ?_
  refine seq_n ?_
  refine Ok.seqP [true, true, true] (by kernel_rfl) ?_
  refine Ok.blockP [true, true, true, false] 0 (by kernel_rfl) ?_
  refine Ok.loopB [true, true, true, false, false] (by kernel_rfl) (fun m_ s_ => ∃ (i : Nat) (j : Nat), (j ≤ l.length) ∧ (i ≤ j) ∧ (bsF (ordQ l k) i j = bsQ l k) ∧ m_ = j - i ∧ s_ = (stX .any 49 ((sP_od_bs l k) ++ [(9, .int .i64 ((i : Nat) : Int)), (10, .int .i64 ((j : Nat) : Int))]) [])) (l.length - 0) (⟨0, l.length, (by omega), (by omega), rfl, rfl, rfl⟩) ?_
  rintro m_ s_ ⟨i, j, hi, hij, hb, rfl, rfl⟩
  refine Ok.seqP [true, true, true, false, false, false] (by kernel_rfl) ?_
  refine Ok.seqP [true, true, true, false, false, false, false] (by kernel_rfl) ?_
  by_cases q1 : ((i : Nat) : Int) < ((j : Nat) : Int)
  · refine Ok.evf (by kernel_rfl) 400 [.d, .d, .v (.bool true)] [0, 1, 2, 6, 7, 8, 9, 10, 17] 0 (st' := (stX .any 49 ((sP_od_bs l k) ++ [(9, .int .i64 ((i : Nat) : Int)), (10, .int .i64 ((j : Nat) : Int)), (17, .bool true)]) [])) (e := .normal) (ob := [(.bool (decide (((i : Nat) : Int) < ((j : Nat) : Int))) : AV) = (.bool true : AV)]) (by kernel_rfl) ⟨(bT q1), trivial⟩ ?_
    refine seq_n ?_
    refine Ok.evf (by kernel_rfl) 400 [.d] [0, 1, 2, 6, 7, 8, 9, 10] 0 (st' := (stX .any 49 ((sP_od_bs l k) ++ [(9, .int .i64 ((i : Nat) : Int)), (10, .int .i64 ((j : Nat) : Int))]) [])) (e := .normal) (ob := []) (by kernel_rfl) trivial ?_
    refine seq_n ?_
    refine Ok.blockP [true, true, true, false, false, false, true] 1 (by kernel_rfl) ?_
    refine Ok.seqP [true, true, true, false, false, false, true, false] (by kernel_rfl) ?_
    refine Ok.evf (by kernel_rfl) 400 [.d, .d, .v (.int .i64 (((i : Nat) : Int) + ((j : Nat) : Int))), .v (.int .u64 (((i : Nat) : Int) + ((j : Nat) : Int))), .v (.int .u64 ((((i : Nat) : Int) + ((j : Nat) : Int)) / 2)), .v (.int .i64 (((i + j) / 2 : Nat) : Int)), .d] [0, 1, 2, 6, 7, 8, 9, 10, 11] 0 (st' := (stX .any 49 ((sP_od_bs l k) ++ [(9, .int .i64 ((i : Nat) : Int)), (10, .int .i64 ((j : Nat) : Int)), (11, .int .i64 (((i + j) / 2 : Nat) : Int))]) [])) (e := .normal) (ob := [(.int .i64 (IntKind.wrap .i64 (((i : Nat) : Int) + ((j : Nat) : Int))) : AV) = (.int .i64 (((i : Nat) : Int) + ((j : Nat) : Int)) : AV),
        (.int .u64 (IntKind.wrap .u64 (((i : Nat) : Int) + ((j : Nat) : Int))) : AV) = (.int .u64 (((i : Nat) : Int) + ((j : Nat) : Int)) : AV),
        (.int .u64 (Int.fdiv (((i : Nat) : Int) + ((j : Nat) : Int)) (2 ^ (min (1 : Int).toNat (IntKind.bits .u64)))) : AV) = (.int .u64 ((((i : Nat) : Int) + ((j : Nat) : Int)) / 2) : AV),
        0 ≤ (1 : Int),
        (.int .i64 (IntKind.wrap .i64 ((((i : Nat) : Int) + ((j : Nat) : Int)) / 2)) : AV) = (.int .i64 (((i + j) / 2 : Nat) : Int) : AV)]) (by kernel_rfl) ⟨iW (w64 (by omega) (by omega)), iW (wu64 (by omega) (by omega)), shr_is (by decide) (by decide), (by decide), iW ((w64 (by omega) (by omega)).trans (by omega)), trivial⟩ ?_
    refine seq_n ?_
    refine Ok.seqP [true, true, true, false, false, false, true, false, true] (by kernel_rfl) ?_
    by_cases q2 : (IntKind.wrap .i64 ((l.getD ((i + j) / 2) q0).kind - k)) < 0
    · refine Ok.evf (by kernel_rfl) 400 [.d, .d, .d, .e (encQ (l.getD ((i + j) / 2) q0)), .d, .d, .f true (.int .i64 (IntKind.wrap .i64 ((l.getD ((i + j) / 2) q0).kind - k))), .v (.bool true)] [0, 1, 2, 6, 7, 8, 9, 10, 11, 31] 0 (st' := (stX .any 49 ((sP_od_bs l k) ++ [(9, .int .i64 ((i : Nat) : Int)), (10, .int .i64 ((j : Nat) : Int)), (11, .int .i64 (((i + j) / 2 : Nat) : Int)), (31, .bool true)]) [])) (e := .normal) (ob := [0 ≤ (((i + j) / 2 : Nat) : Int),
        (l.map encQ)[(((i + j) / 2 : Nat) : Int).toNat]? = some (encQ (l.getD ((i + j) / 2) q0)),
        FnF Try.prog 101 true [.list (l.map encQ), .agg [.int .i64 ((l.getD ((i + j) / 2) q0).kind), .int .i64 ((l.getD ((i + j) / 2) q0).right), .int .i64 ((l.getD ((i + j) / 2) q0).wrong)], .int .i64 k] (.int .i64 (IntKind.wrap .i64 ((l.getD ((i + j) / 2) q0).kind - k))),
        (.bool (decide ((IntKind.wrap .i64 ((l.getD ((i + j) / 2) q0).kind - k)) < 0)) : AV) = (.bool true : AV)]) (by kernel_rfl) ⟨(by omega), elemN (by omega) (by omega), od_order (l := l) (x := (l.getD ((i + j) / 2) q0)) (k := k), (bT q2), trivial⟩ ?_
      refine seq_n ?_
      refine Ok.evf (by kernel_rfl) 400 [.d, .d, .v (.int .i64 ((((i + j) / 2 : Nat) : Int) + 1)), .d] [0, 1, 2, 6, 7, 8, 9, 10] 0 (st' := (stX .any 49 ((sP_od_bs l k) ++ [(9, .int .i64 ((((i + j) / 2 : Nat) : Int) + 1)), (10, .int .i64 ((j : Nat) : Int))]) [])) (e := .normal) (ob := [(.int .i64 (IntKind.wrap .i64 ((((i + j) / 2 : Nat) : Int) + 1)) : AV) = (.int .i64 ((((i + j) / 2 : Nat) : Int) + 1) : AV)]) (by kernel_rfl) ⟨iW (w64 (by omega) (by omega)), trivial⟩ ?_
      refine blk_n ?_
      exact loop_g [0, 1, 2, 6, 7, 8, 9, 10] 0 (j - ((i + j) / 2 + 1)) (by omega) rfl (s' := (stX .any 49 ((sP_od_bs l k) ++ [(9, .int .i64 ((((i + j) / 2 : Nat) : Int) + 1)), (10, .int .i64 ((j : Nat) : Int))]) [])) (ob := []) (by kernel_rfl) trivial (⟨((i + j) / 2 + 1), j, (by omega), (by omega), (bsF_lo (p := ordQ l k) (by omega) q2).trans hb, rfl, rfl⟩)
    · refine Ok.evf (by kernel_rfl) 400 [.d, .d, .d, .e (encQ (l.getD ((i + j) / 2) q0)), .d, .d, .f true (.int .i64 (IntKind.wrap .i64 ((l.getD ((i + j) / 2) q0).kind - k))), .v (.bool false)] [0, 1, 2, 6, 7, 8, 9, 10, 11, 31] 0 (st' := (stX .any 49 ((sP_od_bs l k) ++ [(9, .int .i64 ((i : Nat) : Int)), (10, .int .i64 ((j : Nat) : Int)), (11, .int .i64 (((i + j) / 2 : Nat) : Int)), (31, .bool false)]) [])) (e := .normal) (ob := [0 ≤ (((i + j) / 2 : Nat) : Int),
        (l.map encQ)[(((i + j) / 2 : Nat) : Int).toNat]? = some (encQ (l.getD ((i + j) / 2) q0)),
        FnF Try.prog 101 true [.list (l.map encQ), .agg [.int .i64 ((l.getD ((i + j) / 2) q0).kind), .int .i64 ((l.getD ((i + j) / 2) q0).right), .int .i64 ((l.getD ((i + j) / 2) q0).wrong)], .int .i64 k] (.int .i64 (IntKind.wrap .i64 ((l.getD ((i + j) / 2) q0).kind - k))),
        (.bool (decide ((IntKind.wrap .i64 ((l.getD ((i + j) / 2) q0).kind - k)) < 0)) : AV) = (.bool false : AV)]) (by kernel_rfl) ⟨(by omega), elemN (by omega) (by omega), od_order (l := l) (x := (l.getD ((i + j) / 2) q0)) (k := k), (bF q2), trivial⟩ ?_
      refine seq_n ?_
      refine Ok.evf (by kernel_rfl) 400 [.d, .d, .d] [0, 1, 2, 6, 7, 8, 9, 10] 0 (st' := (stX .any 49 ((sP_od_bs l k) ++ [(9, .int .i64 ((i : Nat) : Int)), (10, .int .i64 (((i + j) / 2 : Nat) : Int))]) [])) (e := .normal) (ob := []) (by kernel_rfl) trivial ?_
      refine blk_n ?_
      exact loop_g [0, 1, 2, 6, 7, 8, 9, 10] 0 ((i + j) / 2 - i) (by omega) rfl (s' := (stX .any 49 ((sP_od_bs l k) ++ [(9, .int .i64 ((i : Nat) : Int)), (10, .int .i64 (((i + j) / 2 : Nat) : Int))]) [])) (ob := []) (by kernel_rfl) trivial (⟨i, ((i + j) / 2), (by omega), (by omega), (bsF_hi (p := ordQ l k) (by omega) q2).trans hb, rfl, rfl⟩)
  · refine Ok.evf (by kernel_rfl) 400 [.d, .d, .v (.bool false)] [0, 1, 2, 6, 7, 8, 9, 10, 17] 0 (st' := (stX .any 49 ((sP_od_bs l k) ++ [(9, .int .i64 ((i : Nat) : Int)), (10, .int .i64 ((j : Nat) : Int)), (17, .bool false)]) [])) (e := .normal) (ob := [(.bool (decide (((i : Nat) : Int) < ((j : Nat) : Int))) : AV) = (.bool false : AV)]) (by kernel_rfl) ⟨(bF q1), trivial⟩ ?_
    refine seq_n ?_
    refine Ok.evf (by kernel_rfl) 400 [.d] [0, 1, 2, 6, 7, 8, 9] 0 (st' := (stX .any 49 ((sP_od_bs l k) ++ [(9, .int .i64 ((i : Nat) : Int))]) [])) (e := (.exit 0)) (ob := []) (by kernel_rfl) trivial ?_
    refine seq_e ?_
    refine loopg_e ?_
    refine blkQ_here ?_
    refine seq_n ?_
    refine Ok.seqP [true, true, true, true] (by kernel_rfl) ?_
    by_cases q2 : ((i : Nat) : Int) < (l.length : Int)
    · by_cases q3 : (IntKind.wrap .i64 ((l.getD i q0).kind - k)) = 0
      · refine Ok.evf (by kernel_rfl) 400 [.d, .d, .d, .v (.bool true), .d, .d, .d, .d, .e (encQ (l.getD i q0)), .d, .d, .f true (.int .i64 (IntKind.wrap .i64 ((l.getD i q0).kind - k))), .v (.bool true), .d, .d, .d] [6, 7] 0 (st' := (stX .any 49 [(6, .int .i64 ((i : Nat) : Int)), (7, .bool true)] [])) (e := .normal) (ob := [(.bool (decide (((i : Nat) : Int) < (l.length : Int))) : AV) = (.bool true : AV),
        0 ≤ ((i : Nat) : Int),
        (l.map encQ)[((i : Nat) : Int).toNat]? = some (encQ (l.getD i q0)),
        FnF Try.prog 101 true [.list (l.map encQ), .agg [.int .i64 ((l.getD i q0).kind), .int .i64 ((l.getD i q0).right), .int .i64 ((l.getD i q0).wrong)], .int .i64 k] (.int .i64 (IntKind.wrap .i64 ((l.getD i q0).kind - k))),
        (.bool ((IntKind.wrap .i64 ((l.getD i q0).kind - k)) == 0) : AV) = (.bool true : AV)]) (by kernel_rfl) ⟨(bT q2), (by omega), elemN (by omega) (by omega), od_order (l := l) (x := (l.getD i q0)) (k := k), (eT q3), trivial⟩ ?_
        refine seq_n ?_
        refine Ok.evf (by kernel_rfl) 400 [] [6, 7] 0 (st' := (stX .any 49 [(6, .int .i64 ((i : Nat) : Int)), (7, .bool true)] [])) (e := .ret) (ob := []) (by kernel_rfl) trivial ?_
        exact ⟨.inr rfl, finF_of (ob := [(((i : Nat) : Int) : Int) = ((bsQ l k : Nat) : Int),
        (true : Bool) = (decide (bsQ l k < l.length) && decide (IntKind.wrap .i64 ((l.getD (bsQ l k) q0).kind - k) = 0))]) (by kernel_rfl) ⟨(by have e : bsQ l k = i := hb.symm.trans (bsF_end (by omega)); first | (rw [e]; done) | (rw [e, decide_eq_false (by omega : ¬ i < l.length)]; rfl) | (rw [e, decide_eq_true (by omega : i < l.length), decide_eq_true (by assumption)]; rfl) | (rw [e, decide_eq_true (by omega : i < l.length), decide_eq_false (by assumption)]; rfl)), (by have e : bsQ l k = i := hb.symm.trans (bsF_end (by omega)); first | (rw [e]; done) | (rw [e, decide_eq_false (by omega : ¬ i < l.length)]; rfl) | (rw [e, decide_eq_true (by omega : i < l.length), decide_eq_true (by assumption)]; rfl) | (rw [e, decide_eq_true (by omega : i < l.length), decide_eq_false (by assumption)]; rfl)), trivial⟩⟩
      · refine Ok.evf (by kernel_rfl) 400 [.d, .d, .d, .v (.bool true), .d, .d, .d, .d, .e (encQ (l.getD i q0)), .d, .d, .f true (.int .i64 (IntKind.wrap .i64 ((l.getD i q0).kind - k))), .v (.bool false), .d, .d, .d] [6, 7] 0 (st' := (stX .any 49 [(6, .int .i64 ((i : Nat) : Int)), (7, .bool false)] [])) (e := .normal) (ob := [(.bool (decide (((i : Nat) : Int) < (l.length : Int))) : AV) = (.bool true : AV),
        0 ≤ ((i : Nat) : Int),
        (l.map encQ)[((i : Nat) : Int).toNat]? = some (encQ (l.getD i q0)),
        FnF Try.prog 101 true [.list (l.map encQ), .agg [.int .i64 ((l.getD i q0).kind), .int .i64 ((l.getD i q0).right), .int .i64 ((l.getD i q0).wrong)], .int .i64 k] (.int .i64 (IntKind.wrap .i64 ((l.getD i q0).kind - k))),
        (.bool ((IntKind.wrap .i64 ((l.getD i q0).kind - k)) == 0) : AV) = (.bool false : AV)]) (by kernel_rfl) ⟨(bT q2), (by omega), elemN (by omega) (by omega), od_order (l := l) (x := (l.getD i q0)) (k := k), (eF q3), trivial⟩ ?_
        refine seq_n ?_
        refine Ok.evf (by kernel_rfl) 400 [] [6, 7] 0 (st' := (stX .any 49 [(6, .int .i64 ((i : Nat) : Int)), (7, .bool false)] [])) (e := .ret) (ob := []) (by kernel_rfl) trivial ?_
        exact ⟨.inr rfl, finF_of (ob := [(((i : Nat) : Int) : Int) = ((bsQ l k : Nat) : Int),
        (false : Bool) = (decide (bsQ l k < l.length) && decide (IntKind.wrap .i64 ((l.getD (bsQ l k) q0).kind - k) = 0))]) (by kernel_rfl) ⟨(by have e : bsQ l k = i := hb.symm.trans (bsF_end (by omega)); first | (rw [e]; done) | (rw [e, decide_eq_false (by omega : ¬ i < l.length)]; rfl) | (rw [e, decide_eq_true (by omega : i < l.length), decide_eq_true (by assumption)]; rfl) | (rw [e, decide_eq_true (by omega : i < l.length), decide_eq_false (by assumption)]; rfl)), (by have e : bsQ l k = i := hb.symm.trans (bsF_end (by omega)); first | (rw [e]; done) | (rw [e, decide_eq_false (by omega : ¬ i < l.length)]; rfl) | (rw [e, decide_eq_true (by omega : i < l.length), decide_eq_true (by assumption)]; rfl) | (rw [e, decide_eq_true (by omega : i < l.length), decide_eq_false (by assumption)]; rfl)), trivial⟩⟩
    · refine Ok.evf (by kernel_rfl) 400 [.d, .d, .d, .v (.bool false), .d, .d, .d, .d, .d, .d, .d, .d, .d, .d, .d, .d] [6, 7] 0 (st' := (stX .any 49 [(6, .int .i64 ((i : Nat) : Int)), (7, .bool false)] [])) (e := .normal) (ob := [(.bool (decide (((i : Nat) : Int) < (l.length : Int))) : AV) = (.bool false : AV)]) (by kernel_rfl) ⟨(bF q2), trivial⟩ ?_
      refine seq_n ?_
      refine Ok.evf (by kernel_rfl) 400 [] [6, 7] 0 (st' := (stX .any 49 [(6, .int .i64 ((i : Nat) : Int)), (7, .bool false)] [])) (e := .ret) (ob := []) (by kernel_rfl) trivial ?_
      exact ⟨.inr rfl, finF_of (ob := [(((i : Nat) : Int) : Int) = ((bsQ l k : Nat) : Int),
        (false : Bool) = (decide (bsQ l k < l.length) && decide (IntKind.wrap .i64 ((l.getD (bsQ l k) q0).kind - k) = 0))]) (by kernel_rfl) ⟨(by have e : bsQ l k = i := hb.symm.trans (bsF_end (by omega)); first | (rw [e]; done) | (rw [e, decide_eq_false (by omega : ¬ i < l.length)]; rfl) | (rw [e, decide_eq_true (by omega : i < l.length), decide_eq_true (by assumption)]; rfl) | (rw [e, decide_eq_true (by omega : i < l.length), decide_eq_false (by assumption)]; rfl)), (by have e : bsQ l k = i := hb.symm.trans (bsF_end (by omega)); first | (rw [e]; done) | (rw [e, decide_eq_false (by omega : ¬ i < l.length)]; rfl) | (rw [e, decide_eq_true (by omega : i < l.length), decide_eq_true (by assumption)]; rfl) | (rw [e, decide_eq_true (by omega : i < l.length), decide_eq_false (by assumption)]; rfl)), trivial⟩⟩

theorem wz {l : List An} (h : RightP l) {k : Int} (hk : -9223372036854775808 ≤ k ∧ k ≤ 9223372036854775807) (hi : bsQ l k < l.length) : IntKind.wrap .i64 ((l.getD (bsQ l k) q0).kind - k) = 0 ↔ (l.getD (bsQ l k) q0).kind = k := by
  have := h.ok _ (getD_mem hi)
  unfold okQ at this
  exact wrap_zero ⟨this.1, this.2.1⟩ hk

theorem od_of {l : List An} {k : Int} (hl : RightP l) (hk : -9223372036854775808 ≤ k ∧ k ≤ 9223372036854775807) : FnF Try.prog 96 true [.list (l.map encQ), .int .i64 k] (encQ (cntQ l k)) := by
  have hn : l.length ≤ 14 := RightP.len hl
  by_cases q1 : bsQ l k < l.length
  · by_cases q2 : IntKind.wrap .i64 ((l.getD (bsQ l k) q0).kind - k) = 0
    · refine fn_evF (by kernel_rfl) Try.func96 (by kernel_rfl) 400 [.d, .d, .d, .d, .d, .f true (.tuple [.int .i64 ((bsQ l k : Nat) : Int), .bool (decide (bsQ l k < l.length) && decide (IntKind.wrap .i64 ((l.getD (bsQ l k) q0).kind - k) = 0))]), .d, .d, .d, .d, .v (.bool true), .d, .d, .d, .d, .d, .e (encQ (l.getD (bsQ l k) q0)), .d, .d] (by kernel_rfl) (ob := [FnF Try.prog 100 true [.list (l.map encQ), .int .i64 k, .func (.func 101) [.list (l.map encQ)] []] (.tuple [.int .i64 ((bsQ l k : Nat) : Int), .bool (decide (bsQ l k < l.length) && decide (IntKind.wrap .i64 ((l.getD (bsQ l k) q0).kind - k) = 0))]), (.bool (decide (bsQ l k < l.length) && decide (IntKind.wrap .i64 ((l.getD (bsQ l k) q0).kind - k) = 0)) : AV) = (.bool true : AV), 0 ≤ ((bsQ l k : Nat) : Int), (l.map encQ)[((bsQ l k : Nat) : Int).toNat]? = some (encQ (l.getD (bsQ l k) q0)), ((l.getD (bsQ l k) q0).kind : Int) = (cntQ l k).kind, ((l.getD (bsQ l k) q0).right : Int) = (cntQ l k).right, ((l.getD (bsQ l k) q0).wrong : Int) = (cntQ l k).wrong]) (by kernel_rfl) ⟨od_bs (l := l) (k := k) (by have := RightP.len hl; omega), (bAnd (bT q1) (bT q2)), (by omega), elemN (by omega) (by omega), ?_, ?_, ?_, trivial⟩ <;> (first | (rw [bs_hit hl (by omega) ((wz hl hk (by omega)).1 (by assumption))] <;> rfl) | (rw [bs_miss hl hk (fun h => absurd h.1 (by assumption))] <;> rfl) | (rw [bs_miss hl hk (fun h => absurd ((wz hl hk h.1).2 h.2) (by assumption))] <;> rfl))
    · refine fn_evF (by kernel_rfl) Try.func96 (by kernel_rfl) 400 [.d, .d, .d, .d, .d, .f true (.tuple [.int .i64 ((bsQ l k : Nat) : Int), .bool (decide (bsQ l k < l.length) && decide (IntKind.wrap .i64 ((l.getD (bsQ l k) q0).kind - k) = 0))]), .d, .d, .d, .d, .v (.bool false), .d, .d, .d, .d, .d, .d] (by kernel_rfl) (ob := [FnF Try.prog 100 true [.list (l.map encQ), .int .i64 k, .func (.func 101) [.list (l.map encQ)] []] (.tuple [.int .i64 ((bsQ l k : Nat) : Int), .bool (decide (bsQ l k < l.length) && decide (IntKind.wrap .i64 ((l.getD (bsQ l k) q0).kind - k) = 0))]), (.bool (decide (bsQ l k < l.length) && decide (IntKind.wrap .i64 ((l.getD (bsQ l k) q0).kind - k) = 0)) : AV) = (.bool false : AV), (k : Int) = (cntQ l k).kind, (0 : Int) = (cntQ l k).right, (0 : Int) = (cntQ l k).wrong]) (by kernel_rfl) ⟨od_bs (l := l) (k := k) (by have := RightP.len hl; omega), (bAndR (bF q2)), ?_, ?_, ?_, trivial⟩ <;> (first | (rw [bs_hit hl (by omega) ((wz hl hk (by omega)).1 (by assumption))] <;> rfl) | (rw [bs_miss hl hk (fun h => absurd h.1 (by assumption))] <;> rfl) | (rw [bs_miss hl hk (fun h => absurd ((wz hl hk h.1).2 h.2) (by assumption))] <;> rfl))
  · refine fn_evF (by kernel_rfl) Try.func96 (by kernel_rfl) 400 [.d, .d, .d, .d, .d, .f true (.tuple [.int .i64 ((bsQ l k : Nat) : Int), .bool (decide (bsQ l k < l.length) && decide (IntKind.wrap .i64 ((l.getD (bsQ l k) q0).kind - k) = 0))]), .d, .d, .d, .d, .v (.bool false), .d, .d, .d, .d, .d, .d] (by kernel_rfl) (ob := [FnF Try.prog 100 true [.list (l.map encQ), .int .i64 k, .func (.func 101) [.list (l.map encQ)] []] (.tuple [.int .i64 ((bsQ l k : Nat) : Int), .bool (decide (bsQ l k < l.length) && decide (IntKind.wrap .i64 ((l.getD (bsQ l k) q0).kind - k) = 0))]), (.bool (decide (bsQ l k < l.length) && decide (IntKind.wrap .i64 ((l.getD (bsQ l k) q0).kind - k) = 0)) : AV) = (.bool false : AV), (k : Int) = (cntQ l k).kind, (0 : Int) = (cntQ l k).right, (0 : Int) = (cntQ l k).wrong]) (by kernel_rfl) ⟨od_bs (l := l) (k := k) (by have := RightP.len hl; omega), (bAndL (bF q1)), ?_, ?_, ?_, trivial⟩ <;> (first | (rw [bs_hit hl (by omega) ((wz hl hk (by omega)).1 (by assumption))] <;> rfl) | (rw [bs_miss hl hk (fun h => absurd h.1 (by assumption))] <;> rfl) | (rw [bs_miss hl hk (fun h => absurd ((wz hl hk h.1).2 h.2) (by assumption))] <;> rfl))


/-- The loss of a cost, by what a book says of a kind. -/
def losN (x : An) (c : Int) : Int := if c < 0 ∨ 1073741824 < c then 0 else (x.right + 1) * c / (Int.gcd ((x.right + 1) * c) (x.right + x.wrong + 2) : Int)
def losD (x : An) (c : Int) : Int := if c < 0 ∨ 1073741824 < c then 0 else (x.right + x.wrong + 2) / (Int.gcd ((x.right + 1) * c) (x.right + x.wrong + 2) : Int)
def losE (c : Int) : Int := if c < 0 ∨ 1073741824 < c then 1 else 0
def oddN (x : An) : Int := (x.right + 1) / (Int.gcd (x.right + 1) (x.right + x.wrong + 2) : Int)
def oddD (x : An) : Int := (x.right + x.wrong + 2) / (Int.gcd (x.right + 1) (x.right + x.wrong + 2) : Int)
theorem mul_bd {r c : Int} (h1 : 0 ≤ r ∧ r ≤ 1073741824) (h2 : 0 ≤ c ∧ c ≤ 1073741824) : 0 ≤ (r + 1) * c ∧ (r + 1) * c ≤ 1152921505680588800 := by
  refine ⟨Int.mul_nonneg (by omega) (by omega), ?_⟩
  have := Int.mul_le_mul (a := r + 1) (b := c) (c := 1073741825) (d := 1073741824) (by omega) (by omega) (by omega) (by omega)
  omega

theorem od_loss {l : List An} {k c : Int} (hl : RightP l) (hk : -9223372036854775808 ≤ k ∧ k ≤ 9223372036854775807) (hc : -9223372036854775808 ≤ c ∧ c ≤ 9223372036854775807) : FnF Try.prog 85 true [.list (l.map encQ), .int .i64 k, .int .i64 c] (.tuple [.agg [.int .i64 (losN (cntQ l k) c), .int .i64 (losD (cntQ l k) c)], .int .i64 (losE c)]) := by
  have kc : (0 ≤ (cntQ l k).right ∧ (cntQ l k).right ≤ 1073741824) ∧ 0 ≤ (cntQ l k).wrong ∧ (cntQ l k).wrong ≤ 1073741824 := cnt_bd hl _
  have km : 0 ≤ c ∧ c ≤ 1073741824 → 0 ≤ ((cntQ l k).right + 1) * c ∧ ((cntQ l k).right + 1) * c ≤ 1152921505680588800 := mul_bd (cnt_bd hl k).1
  by_cases q1 : c < 0
  · refine fn_evF (by kernel_rfl) Try.func85 (by kernel_rfl) 400 [.d, .d, .d, .v (.bool true), .d, .d, .d, .d, .d, .d, .d, .d] (by kernel_rfl) (ob := [(.bool (decide (c < 0)) : AV) = (.bool true : AV), (0 : Int) = losN (cntQ l k) c, (0 : Int) = losD (cntQ l k) c, (1 : Int) = losE c]) (by kernel_rfl) ⟨(bT q1), ?_, ?_, ?_, trivial⟩ <;> (first | (unfold losN; rw [if_pos (by omega)]; done) | (unfold losD; rw [if_pos (by omega)]; done) | (unfold losE; rw [if_pos (by omega)]; done) | (unfold losN; rw [if_neg (by omega)]; done) | (unfold losD; rw [if_neg (by omega)]; done) | (unfold losE; rw [if_neg (by omega)]; done))
  · by_cases q2 : c > 1073741824
    · refine fn_evF (by kernel_rfl) Try.func85 (by kernel_rfl) 400 [.d, .d, .d, .v (.bool false), .d, .d, .v (.bool true), .d, .d, .d, .d, .d] (by kernel_rfl) (ob := [(.bool (decide (c < 0)) : AV) = (.bool false : AV), (.bool (decide (c > 1073741824)) : AV) = (.bool true : AV), (0 : Int) = losN (cntQ l k) c, (0 : Int) = losD (cntQ l k) c, (1 : Int) = losE c]) (by kernel_rfl) ⟨(bF q1), (bT q2), ?_, ?_, ?_, trivial⟩ <;> (first | (unfold losN; rw [if_pos (by omega)]; done) | (unfold losD; rw [if_pos (by omega)]; done) | (unfold losE; rw [if_pos (by omega)]; done) | (unfold losN; rw [if_neg (by omega)]; done) | (unfold losD; rw [if_neg (by omega)]; done) | (unfold losE; rw [if_neg (by omega)]; done))
    · refine fn_evF (by kernel_rfl) Try.func85 (by kernel_rfl) 400 [.d, .d, .d, .v (.bool false), .d, .d, .v (.bool false), .d, .d, .d, .d, .f true (encQ (cntQ l k)), .d, .d, .d, .d, .v (.int .i64 (((cntQ l k).right) + 1)), .d, .v (.int .i64 ((((cntQ l k).right) + 1) * c)), .d, .d, .d, .d, .v (.int .i64 (((cntQ l k).right) + ((cntQ l k).wrong))), .v (.int .i64 ((((cntQ l k).right) + ((cntQ l k).wrong)) + 2)), .f true (.tuple [.agg [.int .i64 (((((cntQ l k).right) + 1) * c) / (Int.gcd ((((cntQ l k).right) + 1) * c) ((((cntQ l k).right) + ((cntQ l k).wrong)) + 2) : Int)), .int .i64 (((((cntQ l k).right) + ((cntQ l k).wrong)) + 2) / (Int.gcd ((((cntQ l k).right) + 1) * c) ((((cntQ l k).right) + ((cntQ l k).wrong)) + 2) : Int))], .int .i64 0]), .d, .d, .d, .d] (by kernel_rfl) (ob := [(.bool (decide (c < 0)) : AV) = (.bool false : AV), (.bool (decide (c > 1073741824)) : AV) = (.bool false : AV), FnF Try.prog 96 true [.list (l.map encQ), .int .i64 k] (encQ (cntQ l k)), (.int .i64 (IntKind.wrap .i64 (((cntQ l k).right) + 1)) : AV) = (.int .i64 (((cntQ l k).right) + 1) : AV), (.int .i64 (IntKind.wrap .i64 ((((cntQ l k).right) + 1) * c)) : AV) = (.int .i64 ((((cntQ l k).right) + 1) * c) : AV), (.int .i64 (IntKind.wrap .i64 (((cntQ l k).right) + ((cntQ l k).wrong))) : AV) = (.int .i64 (((cntQ l k).right) + ((cntQ l k).wrong)) : AV), (.int .i64 (IntKind.wrap .i64 ((((cntQ l k).right) + ((cntQ l k).wrong)) + 2)) : AV) = (.int .i64 ((((cntQ l k).right) + ((cntQ l k).wrong)) + 2) : AV), FnF Try.prog 97 true [.int .i64 ((((cntQ l k).right) + 1) * c), .int .i64 ((((cntQ l k).right) + ((cntQ l k).wrong)) + 2)] (.tuple [.agg [.int .i64 (((((cntQ l k).right) + 1) * c) / (Int.gcd ((((cntQ l k).right) + 1) * c) ((((cntQ l k).right) + ((cntQ l k).wrong)) + 2) : Int)), .int .i64 (((((cntQ l k).right) + ((cntQ l k).wrong)) + 2) / (Int.gcd ((((cntQ l k).right) + 1) * c) ((((cntQ l k).right) + ((cntQ l k).wrong)) + 2) : Int))], .int .i64 0]), (((((cntQ l k).right) + 1) * c) / (Int.gcd ((((cntQ l k).right) + 1) * c) ((((cntQ l k).right) + ((cntQ l k).wrong)) + 2) : Int) : Int) = losN (cntQ l k) c, (((((cntQ l k).right) + ((cntQ l k).wrong)) + 2) / (Int.gcd ((((cntQ l k).right) + 1) * c) ((((cntQ l k).right) + ((cntQ l k).wrong)) + 2) : Int) : Int) = losD (cntQ l k) c, (0 : Int) = losE c]) (by kernel_rfl) ⟨(bF q1), (bF q2), od_of (l := l) (k := k) hl (by omega), iW (w64 (by omega) (by omega)), iW (w64 (by omega) (by omega)), iW (w64 (by omega) (by omega)), iW (w64 (by omega) (by omega)), od_new (by omega) (by omega) (by omega) (by omega), ?_, ?_, ?_, trivial⟩ <;> (first | (unfold losN; rw [if_pos (by omega)]; done) | (unfold losD; rw [if_pos (by omega)]; done) | (unfold losE; rw [if_pos (by omega)]; done) | (unfold losN; rw [if_neg (by omega)]; done) | (unfold losD; rw [if_neg (by omega)]; done) | (unfold losE; rw [if_neg (by omega)]; done))

theorem oc85_3 {l : List An} {k : Int} (hl : RightP l) (hk : -9223372036854775808 ≤ k ∧ k ≤ 9223372036854775807) (kc : (0 ≤ (cntQ l k).right ∧ (cntQ l k).right ≤ 1073741824) ∧ 0 ≤ (cntQ l k).wrong ∧ (cntQ l k).wrong ≤ 1073741824) : FnF Try.prog 85 true [.list (l.map encQ), .int .i64 k, .int .i64 1] (.tuple [.agg [.int .i64 ((((cntQ l k).right) + 1) / (Int.gcd (((cntQ l k).right) + 1) ((((cntQ l k).right) + ((cntQ l k).wrong)) + 2) : Int)), .int .i64 (((((cntQ l k).right) + ((cntQ l k).wrong)) + 2) / (Int.gcd (((cntQ l k).right) + 1) ((((cntQ l k).right) + ((cntQ l k).wrong)) + 2) : Int))], .int .i64 0]) :=
  fn_evF (by kernel_rfl) Try.func85 (by kernel_rfl) 400
      [.d, .d, .d, .d, .d, .d, .d, .d, .d, .d, .d, .f true (encQ (cntQ l k)), .d, .d, .d, .d, .v (.int .i64 (((cntQ l k).right) + 1)), .d, .v (.int .i64 (((cntQ l k).right) + 1)), .d, .d, .d, .d, .v (.int .i64 (((cntQ l k).right) + ((cntQ l k).wrong))), .v (.int .i64 ((((cntQ l k).right) + ((cntQ l k).wrong)) + 2)), .f true (.tuple [.agg [.int .i64 ((((cntQ l k).right) + 1) / (Int.gcd (((cntQ l k).right) + 1) ((((cntQ l k).right) + ((cntQ l k).wrong)) + 2) : Int)), .int .i64 (((((cntQ l k).right) + ((cntQ l k).wrong)) + 2) / (Int.gcd (((cntQ l k).right) + 1) ((((cntQ l k).right) + ((cntQ l k).wrong)) + 2) : Int))], .int .i64 0]), .d, .d, .d, .d]
      (by kernel_rfl) (ob := [FnF Try.prog 96 true [.list (l.map encQ), .int .i64 k] (encQ (cntQ l k)),
        (.int .i64 (IntKind.wrap .i64 (((cntQ l k).right) + 1)) : AV) = (.int .i64 (((cntQ l k).right) + 1) : AV),
        (.int .i64 (IntKind.wrap .i64 ((((cntQ l k).right) + 1) * 1)) : AV) = (.int .i64 (((cntQ l k).right) + 1) : AV),
        (.int .i64 (IntKind.wrap .i64 (((cntQ l k).right) + ((cntQ l k).wrong))) : AV) = (.int .i64 (((cntQ l k).right) + ((cntQ l k).wrong)) : AV),
        (.int .i64 (IntKind.wrap .i64 ((((cntQ l k).right) + ((cntQ l k).wrong)) + 2)) : AV) = (.int .i64 ((((cntQ l k).right) + ((cntQ l k).wrong)) + 2) : AV),
        FnF Try.prog 97 true [.int .i64 (((cntQ l k).right) + 1), .int .i64 ((((cntQ l k).right) + ((cntQ l k).wrong)) + 2)] (.tuple [.agg [.int .i64 ((((cntQ l k).right) + 1) / (Int.gcd (((cntQ l k).right) + 1) ((((cntQ l k).right) + ((cntQ l k).wrong)) + 2) : Int)), .int .i64 (((((cntQ l k).right) + ((cntQ l k).wrong)) + 2) / (Int.gcd (((cntQ l k).right) + 1) ((((cntQ l k).right) + ((cntQ l k).wrong)) + 2) : Int))], .int .i64 0]),
        ((((cntQ l k).right) + 1) / (Int.gcd (((cntQ l k).right) + 1) ((((cntQ l k).right) + ((cntQ l k).wrong)) + 2) : Int) : Int) = (((cntQ l k).right) + 1) / (Int.gcd (((cntQ l k).right) + 1) ((((cntQ l k).right) + ((cntQ l k).wrong)) + 2) : Int),
        (((((cntQ l k).right) + ((cntQ l k).wrong)) + 2) / (Int.gcd (((cntQ l k).right) + 1) ((((cntQ l k).right) + ((cntQ l k).wrong)) + 2) : Int) : Int) = ((((cntQ l k).right) + ((cntQ l k).wrong)) + 2) / (Int.gcd (((cntQ l k).right) + 1) ((((cntQ l k).right) + ((cntQ l k).wrong)) + 2) : Int),
        (0 : Int) = 0]) (by kernel_rfl)
      ⟨od_of (l := l) (k := k) hl (by omega), iW (w64 (by omega) (by omega)), iW ((w64 (by omega) (by omega)).trans (by omega)), iW (w64 (by omega) (by omega)), iW (w64 (by omega) (by omega)), od_new (by omega) (by omega) (by omega) (by omega), rfl, rfl, rfl, trivial⟩

theorem od_odd {l : List An} {k : Int} (hl : RightP l) (hk : -9223372036854775808 ≤ k ∧ k ≤ 9223372036854775807) : FnF Try.prog 55 true [.list (l.map encQ), .int .i64 k] (.agg [.int .i64 (oddN (cntQ l k)), .int .i64 (oddD (cntQ l k))]) := by
  have kc : (0 ≤ (cntQ l k).right ∧ (cntQ l k).right ≤ 1073741824) ∧ 0 ≤ (cntQ l k).wrong ∧ (cntQ l k).wrong ≤ 1073741824 := cnt_bd hl _
  exact fn_evF (by kernel_rfl) Try.func55 (by kernel_rfl) 400 [.d, .d, .d, .f true (.tuple [.agg [.int .i64 ((((cntQ l k).right) + 1) / (Int.gcd (((cntQ l k).right) + 1) ((((cntQ l k).right) + ((cntQ l k).wrong)) + 2) : Int)), .int .i64 (((((cntQ l k).right) + ((cntQ l k).wrong)) + 2) / (Int.gcd (((cntQ l k).right) + 1) ((((cntQ l k).right) + ((cntQ l k).wrong)) + 2) : Int))], .int .i64 0]), .d, .d, .d, .d, .d, .d, .d, .d] (by kernel_rfl) (ob := [FnF Try.prog 85 true [.list (l.map encQ), .int .i64 k, .int .i64 1] (.tuple [.agg [.int .i64 ((((cntQ l k).right) + 1) / (Int.gcd (((cntQ l k).right) + 1) ((((cntQ l k).right) + ((cntQ l k).wrong)) + 2) : Int)), .int .i64 (((((cntQ l k).right) + ((cntQ l k).wrong)) + 2) / (Int.gcd (((cntQ l k).right) + 1) ((((cntQ l k).right) + ((cntQ l k).wrong)) + 2) : Int))], .int .i64 0]), ((((cntQ l k).right) + 1) / (Int.gcd (((cntQ l k).right) + 1) ((((cntQ l k).right) + ((cntQ l k).wrong)) + 2) : Int) : Int) = oddN (cntQ l k), (((((cntQ l k).right) + ((cntQ l k).wrong)) + 2) / (Int.gcd (((cntQ l k).right) + 1) ((((cntQ l k).right) + ((cntQ l k).wrong)) + 2) : Int) : Int) = oddD (cntQ l k)]) (by kernel_rfl) ⟨(oc85_3 hl hk kc), rfl, rfl, trivial⟩

theorem od_rgcd {n d : Int} (h1 : 0 ≤ n) (h2 : 0 ≤ d) (h3 : n ≤ 4611686018427387904) (h4 : d ≤ 4611686018427387904) : FnF Try.prog 72 true [.int .i64 n, .int .i64 d] (.int .i64 (Int.gcd n d : Int)) := by
  refine fn_walkF Try.func72 (by kernel_rfl) (by kernel_rfl) (by kernel_rfl) (st := (stX (.tuple []) 14 [(0, .int .i64 n), (1, .int .i64 d)] [])) rfl ?_
  refine Ok.seqP [] (by kernel_rfl) ?_
  refine Ok.evf (by kernel_rfl) 400 [.d] [0, 1, 4] 0 (st' := (stX .any 14 [(0, .int .i64 n), (1, .int .i64 d), (4, .int .i64 0)] [])) (e := .normal) (ob := []) (by kernel_rfl) trivial ?_
  refine seq_n ?_
  refine Ok.seqP [true] (by kernel_rfl) ?_
  refine Ok.blockP [true, false] 0 (by kernel_rfl) ?_
  refine Ok.loopB [true, false, false] (by kernel_rfl) (fun m_ s_ => ∃ (a : Int) (b : Int), (0 ≤ a) ∧ (0 ≤ b) ∧ (a ≤ 4611686018427387904) ∧ (b ≤ 4611686018427387904) ∧ (Int.gcd a b = Int.gcd n d) ∧ m_ = (b).toNat ∧ s_ = (stX .any 14 [(0, .int .i64 a), (1, .int .i64 b), (4, .int .i64 0)] [])) ((d).toNat) (⟨n, d, (by omega), (by omega), (by omega), (by omega), rfl, rfl, rfl⟩) ?_
  rintro m_ s_ ⟨a, b, ha, hb, ha2, hb2, hg, rfl, rfl⟩
  have km : 0 < b → 0 ≤ a % b ∧ a % b < b := emod_bd a b
  refine Ok.seqP [true, false, false, false] (by kernel_rfl) ?_
  refine Ok.seqP [true, false, false, false, false] (by kernel_rfl) ?_
  by_cases q1 : b > 0
  · refine Ok.evf (by kernel_rfl) 400 [.d, .v (.bool true)] [0, 1, 4, 7] 0 (st' := (stX .any 14 [(0, .int .i64 a), (1, .int .i64 b), (4, .int .i64 0), (7, .bool true)] [])) (e := .normal) (ob := [(.bool (decide (b > 0)) : AV) = (.bool true : AV)]) (by kernel_rfl) ⟨(bT q1), trivial⟩ ?_
    refine seq_n ?_
    refine Ok.evf (by kernel_rfl) 400 [.d] [0, 1, 4] 0 (st' := (stX .any 14 [(0, .int .i64 a), (1, .int .i64 b), (4, .int .i64 0)] [])) (e := .normal) (ob := []) (by kernel_rfl) trivial ?_
    refine seq_n ?_
    refine Ok.evf (by kernel_rfl) 400 [.d, .d, .v (.int .i64 (a % b)), .d, .d, .d, .d, .d] [0, 1, 4] 0 (st' := (stX .any 14 [(0, .int .i64 b), (1, .int .i64 (a % b)), (4, .int .i64 0)] [])) (e := .normal) (ob := [(.int .i64 (a.tmod b) : AV) = (.int .i64 (a % b) : AV),
        b ≠ 0]) (by kernel_rfl) ⟨iI (Int.tmod_eq_emod_of_nonneg (by omega)), (by omega), trivial⟩ ?_
    exact loop_g [0, 1, 4] 0 ((a % b).toNat) (by omega) rfl (s' := (stX .any 14 [(0, .int .i64 b), (1, .int .i64 (a % b)), (4, .int .i64 0)] [])) (ob := []) (by kernel_rfl) trivial (⟨b, (a % b), (by omega), (by omega), (by omega), (by omega), (gcdE_step a b).trans hg, rfl, rfl⟩)
  · refine Ok.evf (by kernel_rfl) 400 [.d, .v (.bool false)] [0, 1, 4, 7] 0 (st' := (stX .any 14 [(0, .int .i64 a), (1, .int .i64 b), (4, .int .i64 0), (7, .bool false)] [])) (e := .normal) (ob := [(.bool (decide (b > 0)) : AV) = (.bool false : AV)]) (by kernel_rfl) ⟨(bF q1), trivial⟩ ?_
    refine seq_n ?_
    refine Ok.evf (by kernel_rfl) 400 [.d] [0, 4] 0 (st' := (stX .any 14 [(0, .int .i64 a), (4, .int .i64 0)] [])) (e := (.exit 0)) (ob := []) (by kernel_rfl) trivial ?_
    refine seq_e ?_
    refine loopg_e ?_
    refine blkQ_here ?_
    refine seq_n ?_
    refine Ok.evf (by kernel_rfl) 400 [.d, .d] [4] 0 (st' := (stX .any 14 [(4, .int .i64 a)] [])) (e := .ret) (ob := []) (by kernel_rfl) trivial ?_
    exact ⟨.inr rfl, finF_of (ob := [(a : Int) = (Int.gcd n d : Int)]) (by kernel_rfl) ⟨(by rw [← hg, show b = 0 by omega, Int.gcd_zero_right]; omega), trivial⟩⟩

theorem oc73_4 {n d : Int} {a : Int} {b : Int} (h1 : 0 ≤ n) (h2 : n ≤ 4611686018427387904) (h3 : 0 < d) (h4 : d ≤ 4611686018427387904) (ha : 0 ≤ a) (ha2 : a ≤ 4611686018427387904) (hb : 0 < b) (hb2 : b ≤ 4611686018427387904) (hq1 : a / (Int.gcd a b : Int) = n / (Int.gcd n d : Int)) (hq2 : b / (Int.gcd a b : Int) = d / (Int.gcd n d : Int)) (hg : 0 < (Int.gcd a b : Int) ∧ (Int.gcd a b : Int) ≤ b ∧ 0 ≤ a / (Int.gcd a b : Int) ∧ a / (Int.gcd a b : Int) ≤ a ∧ 0 ≤ b / (Int.gcd a b : Int) ∧ b / (Int.gcd a b : Int) ≤ b) (q1 : (a % 2) = 0) (q2 : ¬ ((b % 2) = 0)) (q3 : ¬ (a = 0)) : FnF Try.prog 73 true [.int .i64 a] (.int .i64 a) :=
  fn_evF (by kernel_rfl) Try.func73 (by kernel_rfl) 400
      [.d, .d, .v (.bool false), .d, .d, .d]
      (by kernel_rfl) (ob := [(.bool (decide (a < 0)) : AV) = (.bool false : AV),
        (a : Int) = a]) (by kernel_rfl)
      ⟨(bF (by omega)), rfl, trivial⟩

theorem oc73_5 {n d : Int} {a : Int} {b : Int} (h1 : 0 ≤ n) (h2 : n ≤ 4611686018427387904) (h3 : 0 < d) (h4 : d ≤ 4611686018427387904) (ha : 0 ≤ a) (ha2 : a ≤ 4611686018427387904) (hb : 0 < b) (hb2 : b ≤ 4611686018427387904) (hq1 : a / (Int.gcd a b : Int) = n / (Int.gcd n d : Int)) (hq2 : b / (Int.gcd a b : Int) = d / (Int.gcd n d : Int)) (hg : 0 < (Int.gcd a b : Int) ∧ (Int.gcd a b : Int) ≤ b ∧ 0 ≤ a / (Int.gcd a b : Int) ∧ a / (Int.gcd a b : Int) ≤ a ∧ 0 ≤ b / (Int.gcd a b : Int) ∧ b / (Int.gcd a b : Int) ≤ b) (q1 : (a % 2) = 0) (q2 : ¬ ((b % 2) = 0)) (q3 : ¬ (a = 0)) : FnF Try.prog 73 true [.int .i64 b] (.int .i64 b) :=
  fn_evF (by kernel_rfl) Try.func73 (by kernel_rfl) 400
      [.d, .d, .v (.bool false), .d, .d, .d]
      (by kernel_rfl) (ob := [(.bool (decide (b < 0)) : AV) = (.bool false : AV),
        (b : Int) = b]) (by kernel_rfl)
      ⟨(bF (by omega)), rfl, trivial⟩

theorem oc73_6 {n d : Int} {a : Int} {b : Int} (h1 : 0 ≤ n) (h2 : n ≤ 4611686018427387904) (h3 : 0 < d) (h4 : d ≤ 4611686018427387904) (ha : 0 ≤ a) (ha2 : a ≤ 4611686018427387904) (hb : 0 < b) (hb2 : b ≤ 4611686018427387904) (hq1 : a / (Int.gcd a b : Int) = n / (Int.gcd n d : Int)) (hq2 : b / (Int.gcd a b : Int) = d / (Int.gcd n d : Int)) (hg : 0 < (Int.gcd a b : Int) ∧ (Int.gcd a b : Int) ≤ b ∧ 0 ≤ a / (Int.gcd a b : Int) ∧ a / (Int.gcd a b : Int) ≤ a ∧ 0 ≤ b / (Int.gcd a b : Int) ∧ b / (Int.gcd a b : Int) ≤ b) (q1 : (a % 2) = 0) (q2 : ¬ ((b % 2) = 0)) (q3 : ¬ (a = 0)) : FnF Try.prog 73 true [.int .i64 (a / (Int.gcd a b : Int))] (.int .i64 (a / (Int.gcd a b : Int))) :=
  fn_evF (by kernel_rfl) Try.func73 (by kernel_rfl) 400
      [.d, .d, .v (.bool false), .d, .d, .d]
      (by kernel_rfl) (ob := [(.bool (decide ((a / (Int.gcd a b : Int)) < 0)) : AV) = (.bool false : AV),
        (a / (Int.gcd a b : Int) : Int) = a / (Int.gcd a b : Int)]) (by kernel_rfl)
      ⟨(bF (by omega)), rfl, trivial⟩

theorem oc74_7 {n d : Int} {a : Int} {b : Int} (h1 : 0 ≤ n) (h2 : n ≤ 4611686018427387904) (h3 : 0 < d) (h4 : d ≤ 4611686018427387904) (ha : 0 ≤ a) (ha2 : a ≤ 4611686018427387904) (hb : 0 < b) (hb2 : b ≤ 4611686018427387904) (hq1 : a / (Int.gcd a b : Int) = n / (Int.gcd n d : Int)) (hq2 : b / (Int.gcd a b : Int) = d / (Int.gcd n d : Int)) (hg : 0 < (Int.gcd a b : Int) ∧ (Int.gcd a b : Int) ≤ b ∧ 0 ≤ a / (Int.gcd a b : Int) ∧ a / (Int.gcd a b : Int) ≤ a ∧ 0 ≤ b / (Int.gcd a b : Int) ∧ b / (Int.gcd a b : Int) ≤ b) (q1 : (a % 2) = 0) (q2 : ¬ ((b % 2) = 0)) (q3 : ¬ (a = 0)) : FnF Try.prog 74 true [.int .i64 a, .int .i64 (Int.gcd a b : Int)] (.int .i64 (a / (Int.gcd a b : Int))) :=
  fn_evF (by kernel_rfl) Try.func74 (by kernel_rfl) 400
      [.d, .d, .d, .v (.int .i64 (a / (Int.gcd a b : Int))), .f true (.int .i64 (a / (Int.gcd a b : Int))), .d]
      (by kernel_rfl) (ob := [(.int .i64 (IntKind.wrap .i64 (a.tdiv (Int.gcd a b : Int))) : AV) = (.int .i64 (a / (Int.gcd a b : Int)) : AV),
        (Int.gcd a b : Int) ≠ 0,
        FnF Try.prog 73 true [.int .i64 (a / (Int.gcd a b : Int))] (.int .i64 (a / (Int.gcd a b : Int))),
        (a / (Int.gcd a b : Int) : Int) = a / (Int.gcd a b : Int)]) (by kernel_rfl)
      ⟨ediv_w64 (by omega) (by omega) (by omega), (by omega), (oc73_6 h1 h2 h3 h4 ha ha2 hb hb2 hq1 hq2 hg q1 q2 q3), rfl, trivial⟩

theorem oc73_8 {n d : Int} {a : Int} {b : Int} (h1 : 0 ≤ n) (h2 : n ≤ 4611686018427387904) (h3 : 0 < d) (h4 : d ≤ 4611686018427387904) (ha : 0 ≤ a) (ha2 : a ≤ 4611686018427387904) (hb : 0 < b) (hb2 : b ≤ 4611686018427387904) (hq1 : a / (Int.gcd a b : Int) = n / (Int.gcd n d : Int)) (hq2 : b / (Int.gcd a b : Int) = d / (Int.gcd n d : Int)) (hg : 0 < (Int.gcd a b : Int) ∧ (Int.gcd a b : Int) ≤ b ∧ 0 ≤ a / (Int.gcd a b : Int) ∧ a / (Int.gcd a b : Int) ≤ a ∧ 0 ≤ b / (Int.gcd a b : Int) ∧ b / (Int.gcd a b : Int) ≤ b) (q1 : (a % 2) = 0) (q2 : ¬ ((b % 2) = 0)) (q3 : ¬ (a = 0)) : FnF Try.prog 73 true [.int .i64 (b / (Int.gcd a b : Int))] (.int .i64 (b / (Int.gcd a b : Int))) :=
  fn_evF (by kernel_rfl) Try.func73 (by kernel_rfl) 400
      [.d, .d, .v (.bool false), .d, .d, .d]
      (by kernel_rfl) (ob := [(.bool (decide ((b / (Int.gcd a b : Int)) < 0)) : AV) = (.bool false : AV),
        (b / (Int.gcd a b : Int) : Int) = b / (Int.gcd a b : Int)]) (by kernel_rfl)
      ⟨(bF (by omega)), rfl, trivial⟩

theorem oc74_9 {n d : Int} {a : Int} {b : Int} (h1 : 0 ≤ n) (h2 : n ≤ 4611686018427387904) (h3 : 0 < d) (h4 : d ≤ 4611686018427387904) (ha : 0 ≤ a) (ha2 : a ≤ 4611686018427387904) (hb : 0 < b) (hb2 : b ≤ 4611686018427387904) (hq1 : a / (Int.gcd a b : Int) = n / (Int.gcd n d : Int)) (hq2 : b / (Int.gcd a b : Int) = d / (Int.gcd n d : Int)) (hg : 0 < (Int.gcd a b : Int) ∧ (Int.gcd a b : Int) ≤ b ∧ 0 ≤ a / (Int.gcd a b : Int) ∧ a / (Int.gcd a b : Int) ≤ a ∧ 0 ≤ b / (Int.gcd a b : Int) ∧ b / (Int.gcd a b : Int) ≤ b) (q1 : (a % 2) = 0) (q2 : ¬ ((b % 2) = 0)) (q3 : ¬ (a = 0)) : FnF Try.prog 74 true [.int .i64 b, .int .i64 (Int.gcd a b : Int)] (.int .i64 (b / (Int.gcd a b : Int))) :=
  fn_evF (by kernel_rfl) Try.func74 (by kernel_rfl) 400
      [.d, .d, .d, .v (.int .i64 (b / (Int.gcd a b : Int))), .f true (.int .i64 (b / (Int.gcd a b : Int))), .d]
      (by kernel_rfl) (ob := [(.int .i64 (IntKind.wrap .i64 (b.tdiv (Int.gcd a b : Int))) : AV) = (.int .i64 (b / (Int.gcd a b : Int)) : AV),
        (Int.gcd a b : Int) ≠ 0,
        FnF Try.prog 73 true [.int .i64 (b / (Int.gcd a b : Int))] (.int .i64 (b / (Int.gcd a b : Int))),
        (b / (Int.gcd a b : Int) : Int) = b / (Int.gcd a b : Int)]) (by kernel_rfl)
      ⟨ediv_w64 (by omega) (by omega) (by omega), (by omega), (oc73_8 h1 h2 h3 h4 ha ha2 hb hb2 hq1 hq2 hg q1 q2 q3), rfl, trivial⟩

theorem oc75_10   : FnF Try.prog 75 true [] (.int .i64 4611686018427387904) :=
  fn_evF (by kernel_rfl) Try.func75 (by kernel_rfl) 400
      [.d, .d]
      (by kernel_rfl) (ob := [(4611686018427387904 : Int) = 4611686018427387904]) (by kernel_rfl)
      ⟨rfl, trivial⟩

theorem oc73_11 {n d : Int} {a : Int} {b : Int} (h1 : 0 ≤ n) (h2 : n ≤ 4611686018427387904) (h3 : 0 < d) (h4 : d ≤ 4611686018427387904) (ha : 0 ≤ a) (ha2 : a ≤ 4611686018427387904) (hb : 0 < b) (hb2 : b ≤ 4611686018427387904) (hq1 : a / (Int.gcd a b : Int) = n / (Int.gcd n d : Int)) (hq2 : b / (Int.gcd a b : Int) = d / (Int.gcd n d : Int)) (hg : 0 < (Int.gcd a b : Int) ∧ (Int.gcd a b : Int) ≤ b ∧ 0 ≤ a / (Int.gcd a b : Int) ∧ a / (Int.gcd a b : Int) ≤ a ∧ 0 ≤ b / (Int.gcd a b : Int) ∧ b / (Int.gcd a b : Int) ≤ b) (q1 : ¬ ((a % 2) = 0)) (q2 : ¬ (a = 0)) : FnF Try.prog 73 true [.int .i64 a] (.int .i64 a) :=
  fn_evF (by kernel_rfl) Try.func73 (by kernel_rfl) 400
      [.d, .d, .v (.bool false), .d, .d, .d]
      (by kernel_rfl) (ob := [(.bool (decide (a < 0)) : AV) = (.bool false : AV),
        (a : Int) = a]) (by kernel_rfl)
      ⟨(bF (by omega)), rfl, trivial⟩

theorem oc73_12 {n d : Int} {a : Int} {b : Int} (h1 : 0 ≤ n) (h2 : n ≤ 4611686018427387904) (h3 : 0 < d) (h4 : d ≤ 4611686018427387904) (ha : 0 ≤ a) (ha2 : a ≤ 4611686018427387904) (hb : 0 < b) (hb2 : b ≤ 4611686018427387904) (hq1 : a / (Int.gcd a b : Int) = n / (Int.gcd n d : Int)) (hq2 : b / (Int.gcd a b : Int) = d / (Int.gcd n d : Int)) (hg : 0 < (Int.gcd a b : Int) ∧ (Int.gcd a b : Int) ≤ b ∧ 0 ≤ a / (Int.gcd a b : Int) ∧ a / (Int.gcd a b : Int) ≤ a ∧ 0 ≤ b / (Int.gcd a b : Int) ∧ b / (Int.gcd a b : Int) ≤ b) (q1 : ¬ ((a % 2) = 0)) (q2 : ¬ (a = 0)) : FnF Try.prog 73 true [.int .i64 b] (.int .i64 b) :=
  fn_evF (by kernel_rfl) Try.func73 (by kernel_rfl) 400
      [.d, .d, .v (.bool false), .d, .d, .d]
      (by kernel_rfl) (ob := [(.bool (decide (b < 0)) : AV) = (.bool false : AV),
        (b : Int) = b]) (by kernel_rfl)
      ⟨(bF (by omega)), rfl, trivial⟩

theorem oc73_13 {n d : Int} {a : Int} {b : Int} (h1 : 0 ≤ n) (h2 : n ≤ 4611686018427387904) (h3 : 0 < d) (h4 : d ≤ 4611686018427387904) (ha : 0 ≤ a) (ha2 : a ≤ 4611686018427387904) (hb : 0 < b) (hb2 : b ≤ 4611686018427387904) (hq1 : a / (Int.gcd a b : Int) = n / (Int.gcd n d : Int)) (hq2 : b / (Int.gcd a b : Int) = d / (Int.gcd n d : Int)) (hg : 0 < (Int.gcd a b : Int) ∧ (Int.gcd a b : Int) ≤ b ∧ 0 ≤ a / (Int.gcd a b : Int) ∧ a / (Int.gcd a b : Int) ≤ a ∧ 0 ≤ b / (Int.gcd a b : Int) ∧ b / (Int.gcd a b : Int) ≤ b) (q1 : ¬ ((a % 2) = 0)) (q2 : ¬ (a = 0)) : FnF Try.prog 73 true [.int .i64 (a / (Int.gcd a b : Int))] (.int .i64 (a / (Int.gcd a b : Int))) :=
  fn_evF (by kernel_rfl) Try.func73 (by kernel_rfl) 400
      [.d, .d, .v (.bool false), .d, .d, .d]
      (by kernel_rfl) (ob := [(.bool (decide ((a / (Int.gcd a b : Int)) < 0)) : AV) = (.bool false : AV),
        (a / (Int.gcd a b : Int) : Int) = a / (Int.gcd a b : Int)]) (by kernel_rfl)
      ⟨(bF (by omega)), rfl, trivial⟩

theorem oc74_14 {n d : Int} {a : Int} {b : Int} (h1 : 0 ≤ n) (h2 : n ≤ 4611686018427387904) (h3 : 0 < d) (h4 : d ≤ 4611686018427387904) (ha : 0 ≤ a) (ha2 : a ≤ 4611686018427387904) (hb : 0 < b) (hb2 : b ≤ 4611686018427387904) (hq1 : a / (Int.gcd a b : Int) = n / (Int.gcd n d : Int)) (hq2 : b / (Int.gcd a b : Int) = d / (Int.gcd n d : Int)) (hg : 0 < (Int.gcd a b : Int) ∧ (Int.gcd a b : Int) ≤ b ∧ 0 ≤ a / (Int.gcd a b : Int) ∧ a / (Int.gcd a b : Int) ≤ a ∧ 0 ≤ b / (Int.gcd a b : Int) ∧ b / (Int.gcd a b : Int) ≤ b) (q1 : ¬ ((a % 2) = 0)) (q2 : ¬ (a = 0)) : FnF Try.prog 74 true [.int .i64 a, .int .i64 (Int.gcd a b : Int)] (.int .i64 (a / (Int.gcd a b : Int))) :=
  fn_evF (by kernel_rfl) Try.func74 (by kernel_rfl) 400
      [.d, .d, .d, .v (.int .i64 (a / (Int.gcd a b : Int))), .f true (.int .i64 (a / (Int.gcd a b : Int))), .d]
      (by kernel_rfl) (ob := [(.int .i64 (IntKind.wrap .i64 (a.tdiv (Int.gcd a b : Int))) : AV) = (.int .i64 (a / (Int.gcd a b : Int)) : AV),
        (Int.gcd a b : Int) ≠ 0,
        FnF Try.prog 73 true [.int .i64 (a / (Int.gcd a b : Int))] (.int .i64 (a / (Int.gcd a b : Int))),
        (a / (Int.gcd a b : Int) : Int) = a / (Int.gcd a b : Int)]) (by kernel_rfl)
      ⟨ediv_w64 (by omega) (by omega) (by omega), (by omega), (oc73_13 h1 h2 h3 h4 ha ha2 hb hb2 hq1 hq2 hg q1 q2), rfl, trivial⟩

theorem oc73_15 {n d : Int} {a : Int} {b : Int} (h1 : 0 ≤ n) (h2 : n ≤ 4611686018427387904) (h3 : 0 < d) (h4 : d ≤ 4611686018427387904) (ha : 0 ≤ a) (ha2 : a ≤ 4611686018427387904) (hb : 0 < b) (hb2 : b ≤ 4611686018427387904) (hq1 : a / (Int.gcd a b : Int) = n / (Int.gcd n d : Int)) (hq2 : b / (Int.gcd a b : Int) = d / (Int.gcd n d : Int)) (hg : 0 < (Int.gcd a b : Int) ∧ (Int.gcd a b : Int) ≤ b ∧ 0 ≤ a / (Int.gcd a b : Int) ∧ a / (Int.gcd a b : Int) ≤ a ∧ 0 ≤ b / (Int.gcd a b : Int) ∧ b / (Int.gcd a b : Int) ≤ b) (q1 : ¬ ((a % 2) = 0)) (q2 : ¬ (a = 0)) : FnF Try.prog 73 true [.int .i64 (b / (Int.gcd a b : Int))] (.int .i64 (b / (Int.gcd a b : Int))) :=
  fn_evF (by kernel_rfl) Try.func73 (by kernel_rfl) 400
      [.d, .d, .v (.bool false), .d, .d, .d]
      (by kernel_rfl) (ob := [(.bool (decide ((b / (Int.gcd a b : Int)) < 0)) : AV) = (.bool false : AV),
        (b / (Int.gcd a b : Int) : Int) = b / (Int.gcd a b : Int)]) (by kernel_rfl)
      ⟨(bF (by omega)), rfl, trivial⟩

theorem oc74_16 {n d : Int} {a : Int} {b : Int} (h1 : 0 ≤ n) (h2 : n ≤ 4611686018427387904) (h3 : 0 < d) (h4 : d ≤ 4611686018427387904) (ha : 0 ≤ a) (ha2 : a ≤ 4611686018427387904) (hb : 0 < b) (hb2 : b ≤ 4611686018427387904) (hq1 : a / (Int.gcd a b : Int) = n / (Int.gcd n d : Int)) (hq2 : b / (Int.gcd a b : Int) = d / (Int.gcd n d : Int)) (hg : 0 < (Int.gcd a b : Int) ∧ (Int.gcd a b : Int) ≤ b ∧ 0 ≤ a / (Int.gcd a b : Int) ∧ a / (Int.gcd a b : Int) ≤ a ∧ 0 ≤ b / (Int.gcd a b : Int) ∧ b / (Int.gcd a b : Int) ≤ b) (q1 : ¬ ((a % 2) = 0)) (q2 : ¬ (a = 0)) : FnF Try.prog 74 true [.int .i64 b, .int .i64 (Int.gcd a b : Int)] (.int .i64 (b / (Int.gcd a b : Int))) :=
  fn_evF (by kernel_rfl) Try.func74 (by kernel_rfl) 400
      [.d, .d, .d, .v (.int .i64 (b / (Int.gcd a b : Int))), .f true (.int .i64 (b / (Int.gcd a b : Int))), .d]
      (by kernel_rfl) (ob := [(.int .i64 (IntKind.wrap .i64 (b.tdiv (Int.gcd a b : Int))) : AV) = (.int .i64 (b / (Int.gcd a b : Int)) : AV),
        (Int.gcd a b : Int) ≠ 0,
        FnF Try.prog 73 true [.int .i64 (b / (Int.gcd a b : Int))] (.int .i64 (b / (Int.gcd a b : Int))),
        (b / (Int.gcd a b : Int) : Int) = b / (Int.gcd a b : Int)]) (by kernel_rfl)
      ⟨ediv_w64 (by omega) (by omega) (by omega), (by omega), (oc73_15 h1 h2 h3 h4 ha ha2 hb hb2 hq1 hq2 hg q1 q2), rfl, trivial⟩

theorem od_newin {n d : Int} (h1 : 0 ≤ n) (h2 : n ≤ 4611686018427387904) (h3 : 0 < d) (h4 : d ≤ 4611686018427387904) : FnF Try.prog 43 true [.int .i64 n, .int .i64 d] (.agg [.int .i64 (n / (Int.gcd n d : Int)), .int .i64 (d / (Int.gcd n d : Int)), .int .i64 0]) := by
  refine fn_walkF Try.func43 (by kernel_rfl) (by kernel_rfl) (by kernel_rfl) (st := (stX (.tuple []) 76 [(0, .int .i64 n), (1, .int .i64 d)] [])) rfl ?_
  refine Ok.seqP [] (by kernel_rfl) ?_
  refine Ok.evf (by kernel_rfl) 400 [.d] [0, 1, 4] 1 (st' := (stX .any 76 [(0, .int .i64 n), (1, .int .i64 d), (4, .ptr 0 0)] [.cells [.int .i64 0, .int .i64 0, .int .i64 0]])) (e := .normal) (ob := []) (by kernel_rfl) trivial ?_
  refine seq_n ?_
  refine Ok.seqP [true] (by kernel_rfl) ?_
  refine Ok.evf (by kernel_rfl) 400 [.d, .v (.bool false), .d] [0, 1, 4, 5] 1 (st' := (stX .any 76 [(0, .int .i64 n), (1, .int .i64 d), (4, .ptr 0 0)] [.cells [.int .i64 0, .int .i64 0, .int .i64 0]])) (e := .normal) (ob := [(.bool (d == 0) : AV) = (.bool false : AV)]) (by kernel_rfl) ⟨(eF (by omega)), trivial⟩ ?_
  refine seq_n ?_
  refine Ok.seqP [true, true] (by kernel_rfl) ?_
  refine Ok.evf (by kernel_rfl) 400 [.d, .d] [1, 4, 5, 6] 1 (st' := (stX .any 76 [(1, .int .i64 d), (4, .ptr 0 0), (5, .int .i64 n)] [.cells [.int .i64 0, .int .i64 0, .int .i64 0]])) (e := .normal) (ob := []) (by kernel_rfl) trivial ?_
  refine seq_n ?_
  refine Ok.seqP [true, true, true] (by kernel_rfl) ?_
  refine Ok.evf (by kernel_rfl) 400 [.d, .d] [4, 5, 6] 1 (st' := (stX .any 76 [(4, .ptr 0 0), (5, .int .i64 n), (6, .int .i64 d)] [.cells [.int .i64 0, .int .i64 0, .int .i64 0]])) (e := .normal) (ob := []) (by kernel_rfl) trivial ?_
  refine seq_n ?_
  refine Ok.seqP [true, true, true, true] (by kernel_rfl) ?_
  refine Ok.blockP [true, true, true, true, false] 0 (by kernel_rfl) ?_
  refine Ok.loopB [true, true, true, true, false, false] (by kernel_rfl) (fun m_ s_ => ∃ (a : Int) (b : Int), (0 ≤ a) ∧ (a ≤ 4611686018427387904) ∧ (0 < b) ∧ (b ≤ 4611686018427387904) ∧ (a / (Int.gcd a b : Int) = n / (Int.gcd n d : Int)) ∧ (b / (Int.gcd a b : Int) = d / (Int.gcd n d : Int)) ∧ m_ = (a).toNat ∧ s_ = (stX .any 76 [(4, .ptr 0 0), (5, .int .i64 a), (6, .int .i64 b)] [.cells [.int .i64 0, .int .i64 0, .int .i64 0]])) ((n).toNat) (⟨n, d, (by omega), (by omega), (by omega), (by omega), rfl, rfl, rfl, rfl⟩) ?_
  rintro m_ s_ ⟨a, b, ha, ha2, hb, hb2, hq1, hq2, rfl, rfl⟩
  have hg : 0 < (Int.gcd a b : Int) ∧ (Int.gcd a b : Int) ≤ b ∧ 0 ≤ a / (Int.gcd a b : Int) ∧ a / (Int.gcd a b : Int) ≤ a ∧ 0 ≤ b / (Int.gcd a b : Int) ∧ b / (Int.gcd a b : Int) ≤ b := gcd_bd a b ha hb
  refine Ok.seqP [true, true, true, true, false, false, false] (by kernel_rfl) ?_
  refine Ok.seqP [true, true, true, true, false, false, false, false] (by kernel_rfl) ?_
  by_cases q1 : (a % 2) = 0
  · by_cases q2 : (b % 2) = 0
    · by_cases q3 : a = 0
      · refine Ok.evf (by kernel_rfl) 400 [.d, .v (.int .i64 (a % 2)), .v (.bool true), .d, .d, .v (.int .i64 (b % 2)), .v (.bool true), .d, .d, .d, .v (.bool false), .d] [4, 5, 6, 27] 1 (st' := (stX .any 76 [(4, .ptr 0 0), (5, .int .i64 a), (6, .int .i64 b), (27, .bool false)] [.cells [.int .i64 0, .int .i64 0, .int .i64 0]])) (e := .normal) (ob := [(.int .i64 (a.tmod 2) : AV) = (.int .i64 (a % 2) : AV),
        (2 : Int) ≠ 0,
        (.bool ((a % 2) == 0) : AV) = (.bool true : AV),
        (.int .i64 (b.tmod 2) : AV) = (.int .i64 (b % 2) : AV),
        (2 : Int) ≠ 0,
        (.bool ((b % 2) == 0) : AV) = (.bool true : AV),
        (.bool (a != 0) : AV) = (.bool false : AV)]) (by kernel_rfl) ⟨iI (Int.tmod_eq_emod_of_nonneg (by omega)), (by decide), (eT q1), iI (Int.tmod_eq_emod_of_nonneg (by omega)), (by decide), (eT q2), (nF q3), trivial⟩ ?_
        refine seq_n ?_
        refine Ok.evf (by kernel_rfl) 400 [.d] [4, 5, 6] 1 (st' := (stX .any 76 [(4, .ptr 0 0), (5, .int .i64 a), (6, .int .i64 b)] [.cells [.int .i64 0, .int .i64 0, .int .i64 0]])) (e := (.exit 0)) (ob := []) (by kernel_rfl) trivial ?_
        refine seq_e ?_
        refine loopg_e ?_
        refine blkQ_here ?_
        refine seq_n ?_
        refine Ok.evf (by kernel_rfl) 400 [.d, .v (.bool true), .d, .d, .d, .d] [4] 1 (st' := (stX .any 76 [(4, .ptr 0 0)] [.cells [.int .i64 0, .int .i64 1, .int .i64 0]])) (e := .ret) (ob := [(.bool (a == 0) : AV) = (.bool true : AV)]) (by kernel_rfl) ⟨(eT q3), trivial⟩ ?_
        exact ⟨.inr rfl, finF_of (ob := [(0 : Int) = n / (Int.gcd n d : Int),
        (1 : Int) = d / (Int.gcd n d : Int),
        (0 : Int) = 0]) (by kernel_rfl) ⟨(by first | exact hq1 | exact hq2 | (have e1 := hq1; rw [show a = 0 by omega] at e1; simpa using e1) | (have e2 := hq2; rw [show a = 0 by omega, Int.gcd_zero_left, show ((b.natAbs : Nat) : Int) = b by omega, Int.ediv_self (by omega)] at e2; exact e2)), (by first | exact hq1 | exact hq2 | (have e1 := hq1; rw [show a = 0 by omega] at e1; simpa using e1) | (have e2 := hq2; rw [show a = 0 by omega, Int.gcd_zero_left, show ((b.natAbs : Nat) : Int) = b by omega, Int.ediv_self (by omega)] at e2; exact e2)), rfl, trivial⟩⟩
      · refine Ok.evf (by kernel_rfl) 400 [.d, .v (.int .i64 (a % 2)), .v (.bool true), .d, .d, .v (.int .i64 (b % 2)), .v (.bool true), .d, .d, .d, .v (.bool true), .d] [4, 5, 6, 27] 1 (st' := (stX .any 76 [(4, .ptr 0 0), (5, .int .i64 a), (6, .int .i64 b), (27, .bool true)] [.cells [.int .i64 0, .int .i64 0, .int .i64 0]])) (e := .normal) (ob := [(.int .i64 (a.tmod 2) : AV) = (.int .i64 (a % 2) : AV),
        (2 : Int) ≠ 0,
        (.bool ((a % 2) == 0) : AV) = (.bool true : AV),
        (.int .i64 (b.tmod 2) : AV) = (.int .i64 (b % 2) : AV),
        (2 : Int) ≠ 0,
        (.bool ((b % 2) == 0) : AV) = (.bool true : AV),
        (.bool (a != 0) : AV) = (.bool true : AV)]) (by kernel_rfl) ⟨iI (Int.tmod_eq_emod_of_nonneg (by omega)), (by decide), (eT q1), iI (Int.tmod_eq_emod_of_nonneg (by omega)), (by decide), (eT q2), (nT q3), trivial⟩ ?_
        refine seq_n ?_
        refine Ok.evf (by kernel_rfl) 400 [.d] [4, 5, 6] 1 (st' := (stX .any 76 [(4, .ptr 0 0), (5, .int .i64 a), (6, .int .i64 b)] [.cells [.int .i64 0, .int .i64 0, .int .i64 0]])) (e := .normal) (ob := []) (by kernel_rfl) trivial ?_
        refine seq_n ?_
        refine Ok.evf (by kernel_rfl) 400 [.d, .v (.int .i64 (a / 2)), .d, .d, .v (.int .i64 (b / 2)), .d] [4, 5, 6] 1 (st' := (stX .any 76 [(4, .ptr 0 0), (5, .int .i64 (a / 2)), (6, .int .i64 (b / 2))] [.cells [.int .i64 0, .int .i64 0, .int .i64 0]])) (e := .normal) (ob := [(.int .i64 (IntKind.wrap .i64 (a.tdiv 2)) : AV) = (.int .i64 (a / 2) : AV),
        (2 : Int) ≠ 0,
        (.int .i64 (IntKind.wrap .i64 (b.tdiv 2)) : AV) = (.int .i64 (b / 2) : AV),
        (2 : Int) ≠ 0]) (by kernel_rfl) ⟨iW ((congrArg _ (Int.tdiv_eq_ediv_of_nonneg (by omega))).trans (w64 (by omega) (by omega))), (by decide), iW ((congrArg _ (Int.tdiv_eq_ediv_of_nonneg (by omega))).trans (w64 (by omega) (by omega))), (by decide), trivial⟩ ?_
        exact loop_g [4, 5, 6] 1 ((a / 2).toNat) (by omega) rfl (s' := (stX .any 76 [(4, .ptr 0 0), (5, .int .i64 (a / 2)), (6, .int .i64 (b / 2))] [.cells [.int .i64 0, .int .i64 0, .int .i64 0]])) (ob := []) (by kernel_rfl) trivial (⟨(a / 2), (b / 2), (by omega), (by omega), (by omega), (by omega), (by rw [← hq1, gcd_half (a := a) (b := b) (by omega) (by omega), div_half (by omega)]), (by rw [← hq2, gcd_half (a := a) (b := b) (by omega) (by omega), div_half (by omega)]), rfl, rfl⟩)
    · refine Ok.evf (by kernel_rfl) 400 [.d, .v (.int .i64 (a % 2)), .v (.bool true), .d, .d, .v (.int .i64 (b % 2)), .v (.bool false), .d, .d, .d, .d, .d] [4, 5, 6, 27] 1 (st' := (stX .any 76 [(4, .ptr 0 0), (5, .int .i64 a), (6, .int .i64 b), (27, .bool false)] [.cells [.int .i64 0, .int .i64 0, .int .i64 0]])) (e := .normal) (ob := [(.int .i64 (a.tmod 2) : AV) = (.int .i64 (a % 2) : AV),
        (2 : Int) ≠ 0,
        (.bool ((a % 2) == 0) : AV) = (.bool true : AV),
        (.int .i64 (b.tmod 2) : AV) = (.int .i64 (b % 2) : AV),
        (2 : Int) ≠ 0,
        (.bool ((b % 2) == 0) : AV) = (.bool false : AV)]) (by kernel_rfl) ⟨iI (Int.tmod_eq_emod_of_nonneg (by omega)), (by decide), (eT q1), iI (Int.tmod_eq_emod_of_nonneg (by omega)), (by decide), (eF q2), trivial⟩ ?_
      refine seq_n ?_
      refine Ok.evf (by kernel_rfl) 400 [.d] [4, 5, 6] 1 (st' := (stX .any 76 [(4, .ptr 0 0), (5, .int .i64 a), (6, .int .i64 b)] [.cells [.int .i64 0, .int .i64 0, .int .i64 0]])) (e := (.exit 0)) (ob := []) (by kernel_rfl) trivial ?_
      refine seq_e ?_
      refine loopg_e ?_
      refine blkQ_here ?_
      refine seq_n ?_
      refine Ok.seqP [true, true, true, true, true] (by kernel_rfl) ?_
      refine Ok.seqP [true, true, true, true, true, false] (by kernel_rfl) ?_
      by_cases q3 : a = 0
      · refine Ok.evf (by kernel_rfl) 400 [.d, .v (.bool true)] [4, 5, 6, 33] 1 (st' := (stX .any 76 [(4, .ptr 0 0), (5, .int .i64 a), (6, .int .i64 b), (33, .bool true)] [.cells [.int .i64 0, .int .i64 0, .int .i64 0]])) (e := .normal) (ob := [(.bool (a == 0) : AV) = (.bool true : AV)]) (by kernel_rfl) ⟨(eT q3), trivial⟩ ?_
        refine seq_n ?_
        refine Ok.evf (by kernel_rfl) 400 [.d, .d, .d, .d] [4] 1 (st' := (stX .any 76 [(4, .ptr 0 0)] [.cells [.int .i64 0, .int .i64 1, .int .i64 0]])) (e := .ret) (ob := []) (by kernel_rfl) trivial ?_
        refine seq_r ?_
        exact ⟨.inr rfl, finF_of (ob := [(0 : Int) = n / (Int.gcd n d : Int),
        (1 : Int) = d / (Int.gcd n d : Int),
        (0 : Int) = 0]) (by kernel_rfl) ⟨(by first | exact hq1 | exact hq2 | (have e1 := hq1; rw [show a = 0 by omega] at e1; simpa using e1) | (have e2 := hq2; rw [show a = 0 by omega, Int.gcd_zero_left, show ((b.natAbs : Nat) : Int) = b by omega, Int.ediv_self (by omega)] at e2; exact e2)), (by first | exact hq1 | exact hq2 | (have e1 := hq1; rw [show a = 0 by omega] at e1; simpa using e1) | (have e2 := hq2; rw [show a = 0 by omega, Int.gcd_zero_left, show ((b.natAbs : Nat) : Int) = b by omega, Int.ediv_self (by omega)] at e2; exact e2)), rfl, trivial⟩⟩
      · refine Ok.evf (by kernel_rfl) 400 [.d, .v (.bool false)] [4, 5, 6, 33] 1 (st' := (stX .any 76 [(4, .ptr 0 0), (5, .int .i64 a), (6, .int .i64 b), (33, .bool false)] [.cells [.int .i64 0, .int .i64 0, .int .i64 0]])) (e := .normal) (ob := [(.bool (a == 0) : AV) = (.bool false : AV)]) (by kernel_rfl) ⟨(eF q3), trivial⟩ ?_
        refine seq_n ?_
        refine Ok.evf (by kernel_rfl) 400 [.d] [4, 5, 6] 1 (st' := (stX .any 76 [(4, .ptr 0 0), (5, .int .i64 a), (6, .int .i64 b)] [.cells [.int .i64 0, .int .i64 0, .int .i64 0]])) (e := .normal) (ob := []) (by kernel_rfl) trivial ?_
        refine seq_n ?_
        refine Ok.evf (by kernel_rfl) 400 [.d, .d, .d, .v (.bool false), .d, .d, .d, .v (.bool false), .d, .d, .d, .f true (.int .i64 a), .d, .f true (.int .i64 b), .f true (.int .i64 (Int.gcd a b : Int)), .d, .d, .d, .f true (.int .i64 (a / (Int.gcd a b : Int))), .d, .d, .d, .f true (.int .i64 (b / (Int.gcd a b : Int))), .d, .d, .f true (.int .i64 4611686018427387904), .v (.bool false), .d, .d, .f true (.int .i64 4611686018427387904), .v (.bool false), .d, .d, .d, .v (.bool false), .d, .v (.bool false), .v (.bool false), .d, .d, .d, .d, .d, .d] [4] 1 (st' := (stX .any 76 [(4, .ptr 0 0)] [.cells [.int .i64 (a / (Int.gcd a b : Int)), .int .i64 (b / (Int.gcd a b : Int)), .int .i64 0]])) (e := .ret) (ob := [(.bool (a == (-9223372036854775808)) : AV) = (.bool false : AV),
        (.bool (b == (-9223372036854775808)) : AV) = (.bool false : AV),
        FnF Try.prog 73 true [.int .i64 a] (.int .i64 a),
        FnF Try.prog 73 true [.int .i64 b] (.int .i64 b),
        FnF Try.prog 72 true [.int .i64 a, .int .i64 b] (.int .i64 (Int.gcd a b : Int)),
        FnF Try.prog 74 true [.int .i64 a, .int .i64 (Int.gcd a b : Int)] (.int .i64 (a / (Int.gcd a b : Int))),
        FnF Try.prog 74 true [.int .i64 b, .int .i64 (Int.gcd a b : Int)] (.int .i64 (b / (Int.gcd a b : Int))),
        FnF Try.prog 75 true [] (.int .i64 4611686018427387904),
        (.bool (decide ((a / (Int.gcd a b : Int)) > 4611686018427387904)) : AV) = (.bool false : AV),
        FnF Try.prog 75 true [] (.int .i64 4611686018427387904),
        (.bool (decide ((b / (Int.gcd a b : Int)) > 4611686018427387904)) : AV) = (.bool false : AV),
        (.bool (decide (a < 0)) : AV) = (.bool false : AV),
        (.bool (decide (b < 0)) : AV) = (.bool false : AV),
        (.bool (!(false == false)) : AV) = (.bool false : AV)]) (by kernel_rfl) ⟨(eF (by omega)), (eF (by omega)), (oc73_4 h1 h2 h3 h4 ha ha2 hb hb2 hq1 hq2 hg q1 q2 q3), (oc73_5 h1 h2 h3 h4 ha ha2 hb hb2 hq1 hq2 hg q1 q2 q3), od_rgcd (n := a) (d := b) (by omega) (by omega) (by omega) (by omega), (oc74_7 h1 h2 h3 h4 ha ha2 hb hb2 hq1 hq2 hg q1 q2 q3), (oc74_9 h1 h2 h3 h4 ha ha2 hb hb2 hq1 hq2 hg q1 q2 q3), oc75_10, (bF (by omega)), oc75_10, (bF (by omega)), (bF (by omega)), (bF (by omega)), bneB rfl rfl, trivial⟩ ?_
        exact ⟨.inr rfl, finF_of (ob := [(a / (Int.gcd a b : Int) : Int) = n / (Int.gcd n d : Int),
        (b / (Int.gcd a b : Int) : Int) = d / (Int.gcd n d : Int),
        (0 : Int) = 0]) (by kernel_rfl) ⟨(by first | exact hq1 | exact hq2 | (have e1 := hq1; rw [show a = 0 by omega] at e1; simpa using e1) | (have e2 := hq2; rw [show a = 0 by omega, Int.gcd_zero_left, show ((b.natAbs : Nat) : Int) = b by omega, Int.ediv_self (by omega)] at e2; exact e2)), (by first | exact hq1 | exact hq2 | (have e1 := hq1; rw [show a = 0 by omega] at e1; simpa using e1) | (have e2 := hq2; rw [show a = 0 by omega, Int.gcd_zero_left, show ((b.natAbs : Nat) : Int) = b by omega, Int.ediv_self (by omega)] at e2; exact e2)), rfl, trivial⟩⟩
  · refine Ok.evf (by kernel_rfl) 400 [.d, .v (.int .i64 (a % 2)), .v (.bool false), .d, .d, .d, .d, .d, .d, .d, .d, .d] [4, 5, 6, 27] 1 (st' := (stX .any 76 [(4, .ptr 0 0), (5, .int .i64 a), (6, .int .i64 b), (27, .bool false)] [.cells [.int .i64 0, .int .i64 0, .int .i64 0]])) (e := .normal) (ob := [(.int .i64 (a.tmod 2) : AV) = (.int .i64 (a % 2) : AV),
        (2 : Int) ≠ 0,
        (.bool ((a % 2) == 0) : AV) = (.bool false : AV)]) (by kernel_rfl) ⟨iI (Int.tmod_eq_emod_of_nonneg (by omega)), (by decide), (eF q1), trivial⟩ ?_
    refine seq_n ?_
    refine Ok.evf (by kernel_rfl) 400 [.d] [4, 5, 6] 1 (st' := (stX .any 76 [(4, .ptr 0 0), (5, .int .i64 a), (6, .int .i64 b)] [.cells [.int .i64 0, .int .i64 0, .int .i64 0]])) (e := (.exit 0)) (ob := []) (by kernel_rfl) trivial ?_
    refine seq_e ?_
    refine loopg_e ?_
    refine blkQ_here ?_
    refine seq_n ?_
    refine Ok.seqP [true, true, true, true, true] (by kernel_rfl) ?_
    refine Ok.seqP [true, true, true, true, true, false] (by kernel_rfl) ?_
    by_cases q2 : a = 0
    · refine Ok.evf (by kernel_rfl) 400 [.d, .v (.bool true)] [4, 5, 6, 33] 1 (st' := (stX .any 76 [(4, .ptr 0 0), (5, .int .i64 a), (6, .int .i64 b), (33, .bool true)] [.cells [.int .i64 0, .int .i64 0, .int .i64 0]])) (e := .normal) (ob := [(.bool (a == 0) : AV) = (.bool true : AV)]) (by kernel_rfl) ⟨(eT q2), trivial⟩ ?_
      refine seq_n ?_
      refine Ok.evf (by kernel_rfl) 400 [.d, .d, .d, .d] [4] 1 (st' := (stX .any 76 [(4, .ptr 0 0)] [.cells [.int .i64 0, .int .i64 1, .int .i64 0]])) (e := .ret) (ob := []) (by kernel_rfl) trivial ?_
      refine seq_r ?_
      exact ⟨.inr rfl, finF_of (ob := [(0 : Int) = n / (Int.gcd n d : Int),
        (1 : Int) = d / (Int.gcd n d : Int),
        (0 : Int) = 0]) (by kernel_rfl) ⟨(by first | exact hq1 | exact hq2 | (have e1 := hq1; rw [show a = 0 by omega] at e1; simpa using e1) | (have e2 := hq2; rw [show a = 0 by omega, Int.gcd_zero_left, show ((b.natAbs : Nat) : Int) = b by omega, Int.ediv_self (by omega)] at e2; exact e2)), (by first | exact hq1 | exact hq2 | (have e1 := hq1; rw [show a = 0 by omega] at e1; simpa using e1) | (have e2 := hq2; rw [show a = 0 by omega, Int.gcd_zero_left, show ((b.natAbs : Nat) : Int) = b by omega, Int.ediv_self (by omega)] at e2; exact e2)), rfl, trivial⟩⟩
    · refine Ok.evf (by kernel_rfl) 400 [.d, .v (.bool false)] [4, 5, 6, 33] 1 (st' := (stX .any 76 [(4, .ptr 0 0), (5, .int .i64 a), (6, .int .i64 b), (33, .bool false)] [.cells [.int .i64 0, .int .i64 0, .int .i64 0]])) (e := .normal) (ob := [(.bool (a == 0) : AV) = (.bool false : AV)]) (by kernel_rfl) ⟨(eF q2), trivial⟩ ?_
      refine seq_n ?_
      refine Ok.evf (by kernel_rfl) 400 [.d] [4, 5, 6] 1 (st' := (stX .any 76 [(4, .ptr 0 0), (5, .int .i64 a), (6, .int .i64 b)] [.cells [.int .i64 0, .int .i64 0, .int .i64 0]])) (e := .normal) (ob := []) (by kernel_rfl) trivial ?_
      refine seq_n ?_
      refine Ok.evf (by kernel_rfl) 400 [.d, .d, .d, .v (.bool false), .d, .d, .d, .v (.bool false), .d, .d, .d, .f true (.int .i64 a), .d, .f true (.int .i64 b), .f true (.int .i64 (Int.gcd a b : Int)), .d, .d, .d, .f true (.int .i64 (a / (Int.gcd a b : Int))), .d, .d, .d, .f true (.int .i64 (b / (Int.gcd a b : Int))), .d, .d, .f true (.int .i64 4611686018427387904), .v (.bool false), .d, .d, .f true (.int .i64 4611686018427387904), .v (.bool false), .d, .d, .d, .v (.bool false), .d, .v (.bool false), .v (.bool false), .d, .d, .d, .d, .d, .d] [4] 1 (st' := (stX .any 76 [(4, .ptr 0 0)] [.cells [.int .i64 (a / (Int.gcd a b : Int)), .int .i64 (b / (Int.gcd a b : Int)), .int .i64 0]])) (e := .ret) (ob := [(.bool (a == (-9223372036854775808)) : AV) = (.bool false : AV),
        (.bool (b == (-9223372036854775808)) : AV) = (.bool false : AV),
        FnF Try.prog 73 true [.int .i64 a] (.int .i64 a),
        FnF Try.prog 73 true [.int .i64 b] (.int .i64 b),
        FnF Try.prog 72 true [.int .i64 a, .int .i64 b] (.int .i64 (Int.gcd a b : Int)),
        FnF Try.prog 74 true [.int .i64 a, .int .i64 (Int.gcd a b : Int)] (.int .i64 (a / (Int.gcd a b : Int))),
        FnF Try.prog 74 true [.int .i64 b, .int .i64 (Int.gcd a b : Int)] (.int .i64 (b / (Int.gcd a b : Int))),
        FnF Try.prog 75 true [] (.int .i64 4611686018427387904),
        (.bool (decide ((a / (Int.gcd a b : Int)) > 4611686018427387904)) : AV) = (.bool false : AV),
        FnF Try.prog 75 true [] (.int .i64 4611686018427387904),
        (.bool (decide ((b / (Int.gcd a b : Int)) > 4611686018427387904)) : AV) = (.bool false : AV),
        (.bool (decide (a < 0)) : AV) = (.bool false : AV),
        (.bool (decide (b < 0)) : AV) = (.bool false : AV),
        (.bool (!(false == false)) : AV) = (.bool false : AV)]) (by kernel_rfl) ⟨(eF (by omega)), (eF (by omega)), (oc73_11 h1 h2 h3 h4 ha ha2 hb hb2 hq1 hq2 hg q1 q2), (oc73_12 h1 h2 h3 h4 ha ha2 hb hb2 hq1 hq2 hg q1 q2), od_rgcd (n := a) (d := b) (by omega) (by omega) (by omega) (by omega), (oc74_14 h1 h2 h3 h4 ha ha2 hb hb2 hq1 hq2 hg q1 q2), (oc74_16 h1 h2 h3 h4 ha ha2 hb hb2 hq1 hq2 hg q1 q2), oc75_10, (bF (by omega)), oc75_10, (bF (by omega)), (bF (by omega)), (bF (by omega)), bneB rfl rfl, trivial⟩ ?_
      exact ⟨.inr rfl, finF_of (ob := [(a / (Int.gcd a b : Int) : Int) = n / (Int.gcd n d : Int),
        (b / (Int.gcd a b : Int) : Int) = d / (Int.gcd n d : Int),
        (0 : Int) = 0]) (by kernel_rfl) ⟨(by first | exact hq1 | exact hq2 | (have e1 := hq1; rw [show a = 0 by omega] at e1; simpa using e1) | (have e2 := hq2; rw [show a = 0 by omega, Int.gcd_zero_left, show ((b.natAbs : Nat) : Int) = b by omega, Int.ediv_self (by omega)] at e2; exact e2)), (by first | exact hq1 | exact hq2 | (have e1 := hq1; rw [show a = 0 by omega] at e1; simpa using e1) | (have e2 := hq2; rw [show a = 0 by omega, Int.gcd_zero_left, show ((b.natAbs : Nat) : Int) = b by omega, Int.ediv_self (by omega)] at e2; exact e2)), rfl, trivial⟩⟩

theorem od_rodd {l : List An} {k : Int} (hl : RightP l) (hk : -9223372036854775808 ≤ k ∧ k ≤ 9223372036854775807) : FnF Try.prog 47 true [.list (l.map encQ), .int .i64 k] (.agg [.int .i64 (oddN (cntQ l k)), .int .i64 (oddD (cntQ l k))]) := by
  have kc : (0 ≤ (cntQ l k).right ∧ (cntQ l k).right ≤ 1073741824) ∧ 0 ≤ (cntQ l k).wrong ∧ (cntQ l k).wrong ≤ 1073741824 := cnt_bd hl _
  by_cases q1 : ((lk l k).isSome) = true
  · exact fn_evF (by kernel_rfl) Try.func47 (by kernel_rfl) 400 [.d, .d, .d, .f true (.tuple [encQ (cntQ l k), .bool ((lk l k).isSome)]), .d, .d, .d, .d, .d, .v (.bool true), .d, .d, .v (.int .i64 (((cntQ l k).right) + 1)), .d, .d, .d, .d, .v (.int .i64 (((cntQ l k).right) + ((cntQ l k).wrong))), .v (.int .i64 ((((cntQ l k).right) + ((cntQ l k).wrong)) + 2)), .f true (.agg [.int .i64 ((((cntQ l k).right) + 1) / (Int.gcd (((cntQ l k).right) + 1) ((((cntQ l k).right) + ((cntQ l k).wrong)) + 2) : Int)), .int .i64 (((((cntQ l k).right) + ((cntQ l k).wrong)) + 2) / (Int.gcd (((cntQ l k).right) + 1) ((((cntQ l k).right) + ((cntQ l k).wrong)) + 2) : Int)), .int .i64 0]), .d, .d, .d, .d, .d] (by kernel_rfl) (ob := [FnF Try.prog 81 true [.list (l.map encQ), .int .i64 k] (.tuple [encQ (cntQ l k), .bool ((lk l k).isSome)]), (.bool ((lk l k).isSome) : AV) = (.bool true : AV), (.int .i64 (IntKind.wrap .i64 (((cntQ l k).right) + 1)) : AV) = (.int .i64 (((cntQ l k).right) + 1) : AV), (.int .i64 (IntKind.wrap .i64 (((cntQ l k).right) + ((cntQ l k).wrong))) : AV) = (.int .i64 (((cntQ l k).right) + ((cntQ l k).wrong)) : AV), (.int .i64 (IntKind.wrap .i64 ((((cntQ l k).right) + ((cntQ l k).wrong)) + 2)) : AV) = (.int .i64 ((((cntQ l k).right) + ((cntQ l k).wrong)) + 2) : AV), FnF Try.prog 43 true [.int .i64 (((cntQ l k).right) + 1), .int .i64 ((((cntQ l k).right) + ((cntQ l k).wrong)) + 2)] (.agg [.int .i64 ((((cntQ l k).right) + 1) / (Int.gcd (((cntQ l k).right) + 1) ((((cntQ l k).right) + ((cntQ l k).wrong)) + 2) : Int)), .int .i64 (((((cntQ l k).right) + ((cntQ l k).wrong)) + 2) / (Int.gcd (((cntQ l k).right) + 1) ((((cntQ l k).right) + ((cntQ l k).wrong)) + 2) : Int)), .int .i64 0]), ((((cntQ l k).right) + 1) / (Int.gcd (((cntQ l k).right) + 1) ((((cntQ l k).right) + ((cntQ l k).wrong)) + 2) : Int) : Int) = oddN (cntQ l k), (((((cntQ l k).right) + ((cntQ l k).wrong)) + 2) / (Int.gcd (((cntQ l k).right) + 1) ((((cntQ l k).right) + ((cntQ l k).wrong)) + 2) : Int) : Int) = oddD (cntQ l k)]) (by kernel_rfl) ⟨od_counts (l := l) (k := k) (by have := RightP.len hl; omega), (bBT q1), iW (w64 (by omega) (by omega)), iW (w64 (by omega) (by omega)), iW (w64 (by omega) (by omega)), od_newin (n := ((cntQ l k).right) + 1) (d := (((cntQ l k).right) + ((cntQ l k).wrong)) + 2) (by omega) (by omega) (by omega) (by omega), rfl, rfl, trivial⟩
  · exact fn_evF (by kernel_rfl) Try.func47 (by kernel_rfl) 400 [.d, .d, .d, .f true (.tuple [encQ (cntQ l k), .bool ((lk l k).isSome)]), .d, .d, .d, .d, .d, .v (.bool false), .d, .d, .v (.int .i64 (((cntQ l k).right) + 1)), .d, .d, .d, .d, .v (.int .i64 (((cntQ l k).right) + ((cntQ l k).wrong))), .v (.int .i64 ((((cntQ l k).right) + ((cntQ l k).wrong)) + 2)), .f true (.agg [.int .i64 ((((cntQ l k).right) + 1) / (Int.gcd (((cntQ l k).right) + 1) ((((cntQ l k).right) + ((cntQ l k).wrong)) + 2) : Int)), .int .i64 (((((cntQ l k).right) + ((cntQ l k).wrong)) + 2) / (Int.gcd (((cntQ l k).right) + 1) ((((cntQ l k).right) + ((cntQ l k).wrong)) + 2) : Int)), .int .i64 0]), .d, .d, .d, .d, .d] (by kernel_rfl) (ob := [FnF Try.prog 81 true [.list (l.map encQ), .int .i64 k] (.tuple [encQ (cntQ l k), .bool ((lk l k).isSome)]), (.bool ((lk l k).isSome) : AV) = (.bool false : AV), (.int .i64 (IntKind.wrap .i64 (((cntQ l k).right) + 1)) : AV) = (.int .i64 (((cntQ l k).right) + 1) : AV), (.int .i64 (IntKind.wrap .i64 (((cntQ l k).right) + ((cntQ l k).wrong))) : AV) = (.int .i64 (((cntQ l k).right) + ((cntQ l k).wrong)) : AV), (.int .i64 (IntKind.wrap .i64 ((((cntQ l k).right) + ((cntQ l k).wrong)) + 2)) : AV) = (.int .i64 ((((cntQ l k).right) + ((cntQ l k).wrong)) + 2) : AV), FnF Try.prog 43 true [.int .i64 (((cntQ l k).right) + 1), .int .i64 ((((cntQ l k).right) + ((cntQ l k).wrong)) + 2)] (.agg [.int .i64 ((((cntQ l k).right) + 1) / (Int.gcd (((cntQ l k).right) + 1) ((((cntQ l k).right) + ((cntQ l k).wrong)) + 2) : Int)), .int .i64 (((((cntQ l k).right) + ((cntQ l k).wrong)) + 2) / (Int.gcd (((cntQ l k).right) + 1) ((((cntQ l k).right) + ((cntQ l k).wrong)) + 2) : Int)), .int .i64 0]), ((((cntQ l k).right) + 1) / (Int.gcd (((cntQ l k).right) + 1) ((((cntQ l k).right) + ((cntQ l k).wrong)) + 2) : Int) : Int) = oddN (cntQ l k), (((((cntQ l k).right) + ((cntQ l k).wrong)) + 2) / (Int.gcd (((cntQ l k).right) + 1) ((((cntQ l k).right) + ((cntQ l k).wrong)) + 2) : Int) : Int) = oddD (cntQ l k)]) (by kernel_rfl) ⟨od_counts (l := l) (k := k) (by have := RightP.len hl; omega), (bBF q1), iW (w64 (by omega) (by omega)), iW (w64 (by omega) (by omega)), iW (w64 (by omega) (by omega)), od_newin (n := ((cntQ l k).right) + 1) (d := (((cntQ l k).right) + ((cntQ l k).wrong)) + 2) (by omega) (by omega) (by omega) (by omega), rfl, rfl, trivial⟩

end Go.Proofs.Ytkijlggnnbdeiaa
