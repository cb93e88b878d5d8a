/- Bond, walked -/
import Derived.Test.YtkijlggnnbdeiaaPrMath
import Derived.Test.YtkijlggnnbdeiaaEvZ
import Derived.Test.YtkijlggnnbdeiaaProg
set_option linter.unusedVariables false
set_option linter.unusedSimpArgs false
namespace Go.Proofs.Ytkijlggnnbdeiaa
open Go.RowKit
set_option maxRecDepth 100000
theorem of_iter {L : List Rk} {f : Int} (hL : L.length < 1000000) : Iter Try.prog 87 [.ptrIn (.agg [.list (L.map encK)]) 0, .ptrIn (.agg [.int .i64 f]) 0] ((ofF f L).map fun r => [encK r]) := by
  refine iter_of Try.func87 (by kernel_rfl) (by kernel_rfl) rfl (by kernel_rfl) (st := fun l_ => (stX (.tuple []) 23 [(0, .func (.yield l_) [] []), (1, .ptrIn (.agg [.list (L.map encK)]) 0), (2, .ptrIn (.agg [iV f]) 0)] [])) rfl ?_
  intro Y hG hxs_
  refine OkY.seqP [] (by kernel_rfl) ?_
  refine OkY.evf hG (by kernel_rfl) 400 [.d, .v (iV (L.length : Int)), .d] [0, 2, 6, 7, 8] 0 (st' := (stX .any 23 [(0, .func (.yield Y.l) [] []), (2, .ptrIn (.agg [iV f]) 0), (6, .list (L.map encK)), (7, iV (L.length : Int)), (8, iV 0)] [])) (e := .normal) (ob := [(iV (((L.map encK).length : Nat) : Int) : AV) = (iV (L.length : Int) : AV)]) (by kernel_rfl) ⟨len_map, trivial⟩ ?_
  refine seq_nY ?_
  refine OkY.blockP [true] 0 (by kernel_rfl) ?_
  refine OkY.loopB [true, false] (by kernel_rfl) (fun m_ s_ => ∃ (n : Nat) (k : Nat), (n ≤ L.length) ∧ (k = (ofF f (L.take n)).length) ∧ m_ = L.length - n ∧ s_ = ((stX .any 23 [(0, .func (.yield Y.l) [] []), (2, .ptrIn (.agg [iV f]) 0), (6, .list (L.map encK)), (7, iV (L.length : Int)), (8, iV ((n : Nat) : Int))] []), k, false)) (L.length - 0) (⟨0, 0, (by omega), (by simp [ofF]), rfl, rfl⟩) ?_
  rintro m_ s_ ⟨n, k, hn, hk, rfl, rfl⟩
  refine OkY.seqP [true, false, false] (by kernel_rfl) ?_
  by_cases q1 : ((n : Nat) : Int) < (L.length : Int)
  · refine OkY.evf hG (by kernel_rfl) 400 [.v (.bool true)] [0, 2, 6, 7, 8, 9] 0 (st' := (stX .any 23 [(0, .func (.yield Y.l) [] []), (2, .ptrIn (.agg [iV f]) 0), (6, .list (L.map encK)), (7, iV (L.length : Int)), (8, iV ((n : Nat) : Int)), (9, .bool true)] [])) (e := .normal) (ob := [(.bool (decide (((n : Nat) : Int) < (L.length : Int))) : AV) = (.bool true : AV)]) (by kernel_rfl) ⟨(bT q1), trivial⟩ ?_
    refine seq_nY ?_
    refine OkY.seqP [true, false, false, true] (by kernel_rfl) ?_
    refine OkY.evf hG (by kernel_rfl) 400 [.d] [0, 2, 5, 6, 7, 8] 0 (st' := (stX .any 23 [(0, .func (.yield Y.l) [] []), (2, .ptrIn (.agg [iV f]) 0), (6, .list (L.map encK)), (7, iV (L.length : Int)), (8, iV ((n : Nat) : Int))] [])) (e := .normal) (ob := []) (by kernel_rfl) trivial ?_
    refine seq_nY ?_
    refine OkY.seqP [true, false, false, true, true] (by kernel_rfl) ?_
    refine OkY.blockP [true, false, false, true, true, false] 1 (by kernel_rfl) ?_
    refine OkY.seqP [true, false, false, true, true, false, false] (by kernel_rfl) ?_
    refine OkY.evf hG (by kernel_rfl) 400 [.e (encK (L.getD n k0)), .d, .d, .d] [0, 2, 5, 6, 7, 8, 21] 1 (st' := (stX .any 23 [(0, .func (.yield Y.l) [] []), (2, .ptrIn (.agg [iV f]) 0), (5, .ptr 0 0), (6, .list (L.map encK)), (7, iV (L.length : Int)), (8, iV ((n : Nat) : Int))] [.cells [iV ((L.getD n k0).fi), iV ((L.getD n k0).k), iV ((L.getD n k0).c)]])) (e := .normal) (ob := [0 ≤ ((n : Nat) : Int), (L.map encK)[((n : Nat) : Int).toNat]? = some (encK (L.getD n k0))]) (by kernel_rfl) ⟨(by omega), elemN (by omega) (by omega), trivial⟩ ?_
    refine seq_nY ?_
    refine OkY.seqP [true, false, false, true, true, false, false, true] (by kernel_rfl) ?_
    by_cases q2 : ((L.getD n k0).fi) = f
    · refine OkY.yieldP hG [true, false, false, true, true, false, false, true, false] (by kernel_rfl) (k := k) rfl 7 [.d, .d, .d, .v (.bool true), .d, .d, .d] (s1 := (stX .any 23 [(0, .func (.yield Y.l) [] []), (2, .ptrIn (.agg [iV f]) 0), (5, .ptr 0 0), (6, .list (L.map encK)), (7, iV (L.length : Int)), (8, iV ((n : Nat) : Int)), (12, .ptr 0 0), (13, iV ((L.getD n k0).fi)), (14, iV f), (15, .bool true), (16, .bool true), (17, .func (.yield Y.l) [] []), (18, .agg [iV ((L.getD n k0).fi), iV ((L.getD n k0).k), iV ((L.getD n k0).c)])] [.cells [iV ((L.getD n k0).fi), iV ((L.getD n k0).k), iV ((L.getD n k0).c)]])) (ob1 := [(.bool (((L.getD n k0).fi) == f) : AV) = (.bool true : AV)]) (by kernel_rfl) ⟨(eT q2), trivial⟩ (dst := some 19) (x := [.agg [iV ((L.getD n k0).fi), iV ((L.getD n k0).k), iV ((L.getD n k0).c)]]) (by kernel_rfl) (hxs_ ▸ of_get (by omega) (by assumption) hk) rfl (by kernel_rfl) [.d, .d] (t2 := (stX .any 23 [(0, .func (.yield Y.l) [] []), (2, .ptrIn (.agg [iV f]) 0), (5, .ptr 0 0), (6, .list (L.map encK)), (7, iV (L.length : Int)), (8, iV ((n : Nat) : Int)), (12, .ptr 0 0), (13, iV ((L.getD n k0).fi)), (14, iV f), (15, .bool true), (16, .bool true), (17, .func (.yield Y.l) [] []), (18, .agg [iV ((L.getD n k0).fi), iV ((L.getD n k0).k), iV ((L.getD n k0).c)]), (19, .bool true), (20, .bool false), (21, .bool false)] [.cells [iV ((L.getD n k0).fi), iV ((L.getD n k0).k), iV ((L.getD n k0).c)]])) (obt := []) (by kernel_rfl) trivial [.d, .d] (f2 := (stX .any 23 [(0, .func (.yield Y.l) [] []), (2, .ptrIn (.agg [iV f]) 0), (5, .ptr 0 0), (6, .list (L.map encK)), (7, iV (L.length : Int)), (8, iV ((n : Nat) : Int)), (12, .ptr 0 0), (13, iV ((L.getD n k0).fi)), (14, iV f), (15, .bool true), (16, .bool true), (17, .func (.yield Y.l) [] []), (18, .agg [iV ((L.getD n k0).fi), iV ((L.getD n k0).k), iV ((L.getD n k0).c)]), (19, .bool false), (20, .bool true), (21, .bool true)] [.cells [iV ((L.getD n k0).fi), iV ((L.getD n k0).k), iV ((L.getD n k0).c)]])) (obf := []) (by kernel_rfl) trivial ?_ ?_
      · refine seq_nY ?_
        refine OkY.evf hG (by kernel_rfl) 400 [.d] [0, 2, 6, 7, 8] 1 (st' := (stX .any 23 [(0, .func (.yield Y.l) [] []), (2, .ptrIn (.agg [iV f]) 0), (6, .list (L.map encK)), (7, iV (L.length : Int)), (8, iV ((n : Nat) : Int))] [.cells [iV ((L.getD n k0).fi), iV ((L.getD n k0).k), iV ((L.getD n k0).c)]])) (e := .normal) (ob := []) (by kernel_rfl) trivial ?_
        refine blk_nY ?_
        refine seq_nY ?_
        refine OkY.evf hG (by kernel_rfl) 400 [.v (iV (((n : Nat) : Int) + 1)), .d] [0, 2, 6, 7, 8] 1 (st' := (stX .any 23 [(0, .func (.yield Y.l) [] []), (2, .ptrIn (.agg [iV f]) 0), (6, .list (L.map encK)), (7, iV (L.length : Int)), (8, iV (((n : Nat) : Int) + 1))] [.cells [iV ((L.getD n k0).fi), iV ((L.getD n k0).k), iV ((L.getD n k0).c)]])) (e := .normal) (ob := [(iV (IntKind.wrap .i64 (((n : Nat) : Int) + 1)) : AV) = (iV (((n : Nat) : Int) + 1) : AV)]) (by kernel_rfl) ⟨iW (w64 (by omega) (by omega)), trivial⟩ ?_
        exact loop_gY [0, 2, 6, 7, 8] 0 (L.length - (n + 1)) (by omega) rfl (st2 := (stX .any 23 [(0, .func (.yield Y.l) [] []), (2, .ptrIn (.agg [iV f]) 0), (6, .list (L.map encK)), (7, iV (L.length : Int)), (8, iV (((n : Nat) : Int) + 1))] [])) (ob := []) (by kernel_rfl) trivial (⟨(n + 1), (k + 1), (by omega), of_t (by omega) (by assumption) hk, rfl, rfl⟩)
      · refine seq_nY ?_
        refine OkY.evf hG (by kernel_rfl) 400 [.d] [] 1 (st' := (stX .any 23 [] [.cells [iV ((L.getD n k0).fi), iV ((L.getD n k0).k), iV ((L.getD n k0).c)]])) (e := .ret) (ob := []) (by kernel_rfl) trivial ?_
        refine blk_rY ?_
        refine seq_rY ?_
        refine loopg_rY ?_
        refine blk_rY ?_
        exact ⟨.inr rfl, .inl rfl⟩
    · refine OkY.evf hG (by kernel_rfl) 400 [.d, .d, .d, .v (.bool false), .d, .d, .d, .d, .d, .d] [0, 2, 6, 7, 8, 21] 1 (st' := (stX .any 23 [(0, .func (.yield Y.l) [] []), (2, .ptrIn (.agg [iV f]) 0), (6, .list (L.map encK)), (7, iV (L.length : Int)), (8, iV ((n : Nat) : Int)), (21, .bool false)] [.cells [iV ((L.getD n k0).fi), iV ((L.getD n k0).k), iV ((L.getD n k0).c)]])) (e := .normal) (ob := [(.bool (((L.getD n k0).fi) == f) : AV) = (.bool false : AV)]) (by kernel_rfl) ⟨(eF q2), trivial⟩ ?_
      refine seq_nY ?_
      refine OkY.evf hG (by kernel_rfl) 400 [.d] [0, 2, 6, 7, 8] 1 (st' := (stX .any 23 [(0, .func (.yield Y.l) [] []), (2, .ptrIn (.agg [iV f]) 0), (6, .list (L.map encK)), (7, iV (L.length : Int)), (8, iV ((n : Nat) : Int))] [.cells [iV ((L.getD n k0).fi), iV ((L.getD n k0).k), iV ((L.getD n k0).c)]])) (e := .normal) (ob := []) (by kernel_rfl) trivial ?_
      refine blk_nY ?_
      refine seq_nY ?_
      refine OkY.evf hG (by kernel_rfl) 400 [.v (iV (((n : Nat) : Int) + 1)), .d] [0, 2, 6, 7, 8] 1 (st' := (stX .any 23 [(0, .func (.yield Y.l) [] []), (2, .ptrIn (.agg [iV f]) 0), (6, .list (L.map encK)), (7, iV (L.length : Int)), (8, iV (((n : Nat) : Int) + 1))] [.cells [iV ((L.getD n k0).fi), iV ((L.getD n k0).k), iV ((L.getD n k0).c)]])) (e := .normal) (ob := [(iV (IntKind.wrap .i64 (((n : Nat) : Int) + 1)) : AV) = (iV (((n : Nat) : Int) + 1) : AV)]) (by kernel_rfl) ⟨iW (w64 (by omega) (by omega)), trivial⟩ ?_
      exact loop_gY [0, 2, 6, 7, 8] 0 (L.length - (n + 1)) (by omega) rfl (st2 := (stX .any 23 [(0, .func (.yield Y.l) [] []), (2, .ptrIn (.agg [iV f]) 0), (6, .list (L.map encK)), (7, iV (L.length : Int)), (8, iV (((n : Nat) : Int) + 1))] [])) (ob := []) (by kernel_rfl) trivial (⟨(n + 1), k, (by omega), of_f (by omega) (by assumption) hk, rfl, rfl⟩)
  · refine OkY.evf hG (by kernel_rfl) 400 [.v (.bool false)] [0, 2, 6, 7, 8, 9] 0 (st' := (stX .any 23 [(0, .func (.yield Y.l) [] []), (2, .ptrIn (.agg [iV f]) 0), (6, .list (L.map encK)), (7, iV (L.length : Int)), (8, iV ((n : Nat) : Int)), (9, .bool false)] [])) (e := .normal) (ob := [(.bool (decide (((n : Nat) : Int) < (L.length : Int))) : AV) = (.bool false : AV)]) (by kernel_rfl) ⟨(bF q1), trivial⟩ ?_
    refine seq_nY ?_
    refine OkY.seqP [true, false, false, true] (by kernel_rfl) ?_
    refine OkY.evf hG (by kernel_rfl) 400 [.d] [] 0 (st' := (stX .any 23 [] [])) (e := (.exit 0)) (ob := []) (by kernel_rfl) trivial ?_
    refine seq_eY ?_
    refine loopg_eY ?_
    refine blkQ_hereY ?_
    exact ⟨.inl rfl, .inr (of_end (by omega) hk)⟩

def sP_pr_idx (L : List Rk) : List (Nat × AV) := [(0, .list (L.map encK)), (1, .func (.func 53) [] []), (6, .list (L.map encK)), (7, iV (L.length : Int))]
theorem pr_idx {L : List Rk} (hL : L.length < 1000000) : FnF Try.prog 86 true [.list (L.map encK), .func (.func 53) [] []] (.int .i64 (idxF wrongK L)) := by
  refine fn_walkF Try.func86 (by kernel_rfl) (by kernel_rfl) (by kernel_rfl) (st := (stX (.tuple []) 19 [(0, .list (L.map encK)), (1, .func (.func 53) [] [])] [])) rfl ?_
  refine Ok.sq [] ?_
  refine Ok.ev2 400 [.d] [0, 1, 4, 7, 8] 0 (st' := (stX .any 19 [(0, .list (L.map encK)), (1, .func (.func 53) [] []), (4, iV 0), (7, .tuple []), (8, .tuple [])] [])) (e := .normal) (ob := []) trivial ?_
  refine seq_n ?_
  refine Ok.sq [true] ?_
  refine Ok.sq [true, false] ?_
  refine Ok.ev2 400 [.d, .v (iV (L.length : Int)), .d] [0, 1, 6, 7, 8] 0 (st' := (stX .any 19 ((sP_pr_idx L) ++ [(8, iV 0)]) [])) (e := .normal) (ob := [(iV (((L.map encK).length : Nat) : Int) : AV) = (iV (L.length : Int) : AV)]) ⟨len_map, trivial⟩ ?_
  refine seq_n ?_
  refine Ok.bk [true, false, true] 0 ?_
  refine Ok.loopB [true, false, true, false] (by kernel_rfl) (fun m_ s_ => ∃ (n : Nat), (n ≤ L.length) ∧ (∀ j, j < n → ¬ wrongK (L.getD j k0) = true) ∧ m_ = L.length - n ∧ s_ = (stX .any 19 ((sP_pr_idx L) ++ [(8, iV ((n : Nat) : Int))]) [])) (L.length - 0) (⟨0, (by omega), fun j hj => by omega, rfl, rfl⟩) ?_
  rintro m_ s_ ⟨n, hn, hno, rfl, rfl⟩
  refine Ok.sq [true, false, true, false, false] ?_
  by_cases q1 : ((n : Nat) : Int) < (L.length : Int)
  · refine Ok.ev2 400 [.v (.bool true)] [0, 1, 4, 6, 7, 8, 9] 0 (st' := (stX .any 19 ((sP_pr_idx L) ++ [(8, iV ((n : Nat) : Int)), (9, .bool true)]) [])) (e := .normal) (ob := [(.bool (decide (((n : Nat) : Int) < (L.length : Int))) : AV) = (.bool true : AV)]) ⟨(bT q1), trivial⟩ ?_
    refine seq_n ?_
    refine Ok.sq [true, false, true, false, false, true] ?_
    refine Ok.ev2 400 [.d] [0, 1, 4, 6, 7, 8] 0 (st' := (stX .any 19 ((sP_pr_idx L) ++ [(8, iV ((n : Nat) : Int))]) [])) (e := .normal) (ob := []) trivial ?_
    refine seq_n ?_
    refine Ok.sq [true, false, true, false, false, true, true] ?_
    refine Ok.bk [true, false, true, false, false, true, true, false] 1 ?_
    refine Ok.sq [true, false, true, false, false, true, true, false, false] ?_
    refine Ok.ev2 400 [.d, .d] [0, 1, 4, 5, 6, 7, 8] 0 (st' := (stX .any 19 [(0, .list (L.map encK)), (1, .func (.func 53) [] []), (5, iV ((n : Nat) : Int)), (6, .list (L.map encK)), (7, iV (L.length : Int)), (8, iV ((n : Nat) : Int))] [])) (e := .normal) (ob := []) trivial ?_
    refine seq_n ?_
    refine Ok.sq [true, false, true, false, false, true, true, false, false, true] ?_
    refine Ok.ev2 400 [.d, .d, .d, .e (encK (L.getD n k0)), .d, .f true (.bool (wrongR ((L.getD n k0).fi) ((L.getD n k0).k) ((L.getD n k0).c)))] [0, 1, 4, 5, 6, 7, 8, 16] 0 (st' := (stX .any 19 [(0, .list (L.map encK)), (1, .func (.func 53) [] []), (5, iV ((n : Nat) : Int)), (6, .list (L.map encK)), (7, iV (L.length : Int)), (8, iV ((n : Nat) : Int)), (16, .bool (wrongR ((L.getD n k0).fi) ((L.getD n k0).k) ((L.getD n k0).c)))] [])) (e := .normal) (ob := [0 ≤ ((n : Nat) : Int), (L.map encK)[((n : Nat) : Int).toNat]? = some (encK (L.getD n k0)), FnF Try.prog 53 true [.agg [iV ((L.getD n k0).fi), iV ((L.getD n k0).k), iV ((L.getD n k0).c)]] (.bool (wrongR ((L.getD n k0).fi) ((L.getD n k0).k) ((L.getD n k0).c)))]) ⟨(by omega), elemN (by omega) (by omega), pr_wrong, trivial⟩ ?_
    refine seq_n ?_
    by_cases q2 : (wrongR ((L.getD n k0).fi) ((L.getD n k0).k) ((L.getD n k0).c)) = true
    · refine Ok.ev2 400 [.v (.bool true), .d, .d] [4] 0 (st' := (stX .any 19 [(4, iV ((n : Nat) : Int))] [])) (e := .ret) (ob := [wrongR ((L.getD n k0).fi) ((L.getD n k0).k) ((L.getD n k0).c) = true]) ⟨(unB (bBT q2)), trivial⟩ ?_
      refine blk_r ?_
      refine seq_r ?_
      refine loopg_r ?_
      refine blk_r ?_
      refine seq_r ?_
      exact ⟨.inr rfl, finF_of (ob := [(((n : Nat) : Int) : Int) = idxF wrongK L]) (by kernel_rfl) ⟨(by first | exact idx_at (d := k0) (by omega) hno (by assumption) | exact idx_no (d := k0) (fun j hj => hno j (by omega))), trivial⟩⟩
    · refine Ok.ev2 400 [.v (.bool false)] [0, 1, 4, 6, 7, 8] 0 (st' := (stX .any 19 ((sP_pr_idx L) ++ [(8, iV ((n : Nat) : Int))]) [])) (e := .normal) (ob := [wrongR ((L.getD n k0).fi) ((L.getD n k0).k) ((L.getD n k0).c) = false]) ⟨(unB (bBF q2)), trivial⟩ ?_
      refine blk_n ?_
      refine seq_n ?_
      refine Ok.ev2 400 [.v (iV (((n : Nat) : Int) + 1)), .d] [0, 1, 6, 7, 8] 0 (st' := (stX .any 19 ((sP_pr_idx L) ++ [(8, iV (((n : Nat) : Int) + 1))]) [])) (e := .normal) (ob := [(iV (IntKind.wrap .i64 (((n : Nat) : Int) + 1)) : AV) = (iV (((n : Nat) : Int) + 1) : AV)]) ⟨iW (w64 (by omega) (by omega)), trivial⟩ ?_
      exact loop_g [0, 1, 6, 7, 8] 0 (L.length - (n + 1)) (by omega) rfl (s' := (stX .any 19 ((sP_pr_idx L) ++ [(8, iV (((n : Nat) : Int) + 1))]) [])) (ob := []) (by kernel_rfl) trivial (⟨(n + 1), (by omega), upto_step hno (by assumption), rfl, rfl⟩)
  · refine Ok.ev2 400 [.v (.bool false)] [0, 1, 4, 6, 7, 8, 9] 0 (st' := (stX .any 19 ((sP_pr_idx L) ++ [(8, iV ((n : Nat) : Int)), (9, .bool false)]) [])) (e := .normal) (ob := [(.bool (decide (((n : Nat) : Int) < (L.length : Int))) : AV) = (.bool false : AV)]) ⟨(bF q1), trivial⟩ ?_
    refine seq_n ?_
    refine Ok.ev2 400 [.d] [4] 0 (st' := (stX .any 19 [] [])) (e := (.exit 0)) (ob := []) trivial ?_
    refine loopg_e ?_
    refine blkQ_here ?_
    refine seq_n ?_
    refine Ok.ev2 400 [.d] [4] 0 (st' := (stX .any 19 [(4, iV (-1))] [])) (e := .ret) (ob := []) trivial ?_
    exact ⟨.inr rfl, finF_of (ob := [((-1) : Int) = idxF wrongK L]) (by kernel_rfl) ⟨(by first | exact idx_at (d := k0) (by omega) hno (by assumption) | exact idx_no (d := k0) (fun j hj => hno j (by omega))), trivial⟩⟩

theorem pb62_21 {l : List An} {L : List Rk} {f base : Int} (hl : RightP l) (hL : L.length < 1000000) (hf : -9223372036854775808 ≤ f ∧ f ≤ 9223372036854775807) (hbase : -9223372036854775808 ≤ base ∧ base ≤ 9223372036854775807) (q1 : 0 ≤ f) (q2 : f < 8) : FnF Try.prog 62 true [.int .i64 f] (.bool true) :=
  fn_e2 Try.func62 400 [.d, .d, .v (.bool true), .d, .d, .v (.bool true), .d, .d] (ob := [(.bool (decide (0 ≤ f)) : AV) = (.bool true : AV), (.bool (decide (f < 8)) : AV) = (.bool true : AV), (true : Bool) = true]) ⟨(bT q1), (bT q2), rfl, trivial⟩

theorem pb63_22 {l : List An} {L : List Rk} {f base : Int} (hl : RightP l) (hL : L.length < 1000000) (hf : -9223372036854775808 ≤ f ∧ f ≤ 9223372036854775807) (hbase : -9223372036854775808 ≤ base ∧ base ≤ 9223372036854775807) (q1 : 0 ≤ f) (q2 : f < 8) (q3 : ¬ (base < 0)) (q4 : ¬ (base > 1000000000)) (q5 : ¬ ((L.length : Int) > 100)) (q6 : (idxF wrongK L) ≥ 0) : FnF Try.prog 63 true [.list (L.map encK), .func (.func 53) [] []] (.bool true) :=
  fn_e2 Try.func63 400 [.d, .d, .d, .f true (iV (idxF wrongK L)), .v (.bool true), .d] (ob := [FnF Try.prog 86 true [.list (L.map encK), .func (.func 53) [] []] (iV (idxF wrongK L)), (.bool (decide ((idxF wrongK L) ≥ 0)) : AV) = (.bool true : AV), (true : Bool) = true]) ⟨pr_idx (L := L) (by omega), (bT q6), rfl, trivial⟩

theorem pb63_23 {l : List An} {L : List Rk} {f base : Int} (hl : RightP l) (hL : L.length < 1000000) (hf : -9223372036854775808 ≤ f ∧ f ≤ 9223372036854775807) (hbase : -9223372036854775808 ≤ base ∧ base ≤ 9223372036854775807) (q1 : 0 ≤ f) (q2 : f < 8) (q3 : ¬ (base < 0)) (q4 : ¬ (base > 1000000000)) (q5 : ¬ ((L.length : Int) > 100)) (q6 : ¬ ((idxF wrongK L) ≥ 0)) : FnF Try.prog 63 true [.list (L.map encK), .func (.func 53) [] []] (.bool false) :=
  fn_e2 Try.func63 400 [.d, .d, .d, .f true (iV (idxF wrongK L)), .v (.bool false), .d] (ob := [FnF Try.prog 86 true [.list (L.map encK), .func (.func 53) [] []] (iV (idxF wrongK L)), (.bool (decide ((idxF wrongK L) ≥ 0)) : AV) = (.bool false : AV), (false : Bool) = false]) ⟨pr_idx (L := L) (by omega), (bF q6), rfl, trivial⟩

theorem pb56_24 {l : List An} {L : List Rk} {f base : Int} (hl : RightP l) (hL : L.length < 1000000) (hf : -9223372036854775808 ≤ f ∧ f ≤ 9223372036854775807) (hbase : -9223372036854775808 ≤ base ∧ base ≤ 9223372036854775807) (q1 : 0 ≤ f) (q2 : f < 8) (q3 : ¬ (base < 0)) (q4 : ¬ (base > 1000000000)) (q5 : ¬ ((L.length : Int) > 100)) (q6 : ¬ ((idxF wrongK L) ≥ 0)) : FnF Try.prog 56 true [.int .i64 base] (.agg [.int .i64 base, .int .i64 1]) :=
  fn_e2 Try.func56 400 [.d, .d, .d, .d] (ob := [(base : Int) = base, (1 : Int) = 1]) ⟨rfl, rfl, trivial⟩

theorem pb64_25 {l : List An} {L : List Rk} {f base : Int} (hl : RightP l) (hL : L.length < 1000000) (hf : -9223372036854775808 ≤ f ∧ f ≤ 9223372036854775807) (hbase : -9223372036854775808 ≤ base ∧ base ≤ 9223372036854775807) (q1 : 0 ≤ f) (q2 : f < 8) (q3 : ¬ (base < 0)) (q4 : ¬ (base > 1000000000)) (q5 : ¬ ((L.length : Int) > 100)) (q6 : ¬ ((idxF wrongK L) ≥ 0)) : FnM Try.prog 64 [] [.list (L.map encK), .int .i64 f] (.func (.func 87) [] [.ptr 0 0, .ptr 1 0]) [.cells [.list (L.map encK)], .cells [.int .i64 f]] :=
  fn_evM (by kernel_rfl) Try.func64 (by kernel_rfl) 400 [.d, .d, .d, .d, .d] (M := []) (M' := [.cells [.list (L.map encK)], .cells [iV f]]) (r := .func (.func 87) [] [.ptr 0 0, .ptr 1 0]) (ob := []) (by kernel_rfl) (by kernel_rfl) trivial

theorem pb62_26 {l : List An} {L : List Rk} {f base : Int} (hl : RightP l) (hL : L.length < 1000000) (hf : -9223372036854775808 ≤ f ∧ f ≤ 9223372036854775807) (hbase : -9223372036854775808 ≤ base ∧ base ≤ 9223372036854775807) (q1 : 0 ≤ f) (q2 : ¬ (f < 8)) : FnF Try.prog 62 true [.int .i64 f] (.bool false) :=
  fn_e2 Try.func62 400 [.d, .d, .v (.bool true), .d, .d, .v (.bool false), .d, .d] (ob := [(.bool (decide (0 ≤ f)) : AV) = (.bool true : AV), (.bool (decide (f < 8)) : AV) = (.bool false : AV), (false : Bool) = false]) ⟨(bT q1), (bF q2), rfl, trivial⟩

theorem pb62_27 {l : List An} {L : List Rk} {f base : Int} (hl : RightP l) (hL : L.length < 1000000) (hf : -9223372036854775808 ≤ f ∧ f ≤ 9223372036854775807) (hbase : -9223372036854775808 ≤ base ∧ base ≤ 9223372036854775807) (q1 : ¬ (0 ≤ f)) : FnF Try.prog 62 true [.int .i64 f] (.bool false) :=
  fn_e2 Try.func62 400 [.d, .d, .v (.bool false), .d, .d, .d, .d, .d] (ob := [(.bool (decide (0 ≤ f)) : AV) = (.bool false : AV), (false : Bool) = false]) ⟨(bF q1), rfl, trivial⟩

def mP_pr_bond (l : List An) : List Blk := [.cells [.list (l.map encQ)], .cells [iV 0, iV 0]]
def sP_pr_bond (L : List Rk) (f : Int) (base : Int) : List (Nat × AV) := [(1, .list (L.map encK)), (2, iV f), (3, iV base), (4, .ptr 0 0), (8, .ptr 1 0), (9, iV 0), (12, .tuple [])]
def oP_pr_bond (L : List Rk) (f : Int) (base : Int) : List Prop := [FnF Try.prog 62 true [iV f] (.bool true), (.bool (decide (base < 0)) : AV) = (.bool false : AV), (.bool (decide (base > 1000000000)) : AV) = (.bool false : AV), (iV (((L.map encK).length : Nat) : Int) : AV) = (iV (L.length : Int) : AV)]
def oP1_pr_bond (l : List An) (L : List Rk) (f : Int) (base : Int) : List Prop := [(0 : Int) = bonN l L f base, (0 : Int) = bonD l L f base, (1 : Int) = bonE l L f base]
theorem pr_bond {l : List An} {L : List Rk} {f base : Int} (hl : RightP l) (hL : L.length < 1000000) (hf : -9223372036854775808 ≤ f ∧ f ≤ 9223372036854775807) (hbase : -9223372036854775808 ≤ base ∧ base ≤ 9223372036854775807) : FnF Try.prog 33 true [.list (l.map encQ), .list (L.map encK), .int .i64 f, .int .i64 base] (.tuple [.agg [.int .i64 (bonN l L f base), .int .i64 (bonD l L f base)], .int .i64 (bonE l L f base)]) := by
  refine fn_walkF Try.func33 (by kernel_rfl) (by kernel_rfl) (by kernel_rfl) (st := (stX (.tuple []) 58 [(0, .list (l.map encQ)), (1, .list (L.map encK)), (2, iV f), (3, iV base)] [])) rfl ?_
  refine Ok.sq [] ?_
  refine Ok.ev2 400 [.d, .d, .d] [1, 2, 3, 4, 8, 9, 12] 2 (st' := (stX .any 58 (sP_pr_bond L f base) (mP_pr_bond l))) (e := .normal) (ob := []) trivial ?_
  refine seq_n ?_
  refine Ok.scopeP [true] (by kernel_rfl) ?_
  refine Ok.sq [true, false] ?_
  refine Ok.sq [true, false, false] ?_
  by_cases q1 : 0 ≤ f
  · by_cases q2 : f < 8
    · by_cases q3 : base < 0
      · refine Ok.ev2 400 [.d, .f true (.bool true), .d, .d, .d, .v (.bool true), .d, .d, .d, .d, .d, .d, .d, .d, .d, .d, .d, .d, .d, .d] [1, 2, 3, 4, 8, 9, 12, 34] 2 (st' := (stX .any 58 ((sP_pr_bond L f base) ++ [(34, .bool true)]) (mP_pr_bond l))) (e := .normal) (ob := [FnF Try.prog 62 true [iV f] (.bool true), (.bool (decide (base < 0)) : AV) = (.bool true : AV)]) ⟨(pb62_21 hl hL hf hbase q1 q2), (bT q3), trivial⟩ ?_
        refine seq_n ?_
        refine Ok.ev2 400 [.d, .d, .d, .d] [8, 9] 2 (st' := (stX .any 58 [(8, .ptr 1 0), (9, iV 1)] (mP_pr_bond l))) (e := .ret) (ob := []) trivial ?_
        refine seq_r ?_
        refine ⟨.inr rfl, finF_of (ob := (oP1_pr_bond l L f base)) (by kernel_rfl) ⟨?_, ?_, ?_, trivial⟩⟩ <;> (first | (unfold bonN; rw [if_pos (by omega)]; done) | (unfold bonD; rw [if_pos (by omega)]; done) | (unfold bonE; rw [if_pos (by omega)]; done) | (unfold bonN; rw [if_neg (by omega), hd]; done) | (unfold bonD; rw [if_neg (by omega), hd]; done) | (unfold bonE; rw [if_neg (by omega), hd]; done) | (unfold bonE; rw [if_neg (by omega), hd]; exact he0))
      · by_cases q4 : base > 1000000000
        · refine Ok.ev2 400 [.d, .f true (.bool true), .d, .d, .d, .v (.bool false), .d, .d, .d, .v (.bool true), .d, .d, .d, .d, .d, .d, .d, .d, .d, .d] [1, 2, 3, 4, 8, 9, 12, 34] 2 (st' := (stX .any 58 ((sP_pr_bond L f base) ++ [(34, .bool true)]) (mP_pr_bond l))) (e := .normal) (ob := [FnF Try.prog 62 true [iV f] (.bool true), (.bool (decide (base < 0)) : AV) = (.bool false : AV), (.bool (decide (base > 1000000000)) : AV) = (.bool true : AV)]) ⟨(pb62_21 hl hL hf hbase q1 q2), (bF q3), (bT q4), trivial⟩ ?_
          refine seq_n ?_
          refine Ok.ev2 400 [.d, .d, .d, .d] [8, 9] 2 (st' := (stX .any 58 [(8, .ptr 1 0), (9, iV 1)] (mP_pr_bond l))) (e := .ret) (ob := []) trivial ?_
          refine seq_r ?_
          refine ⟨.inr rfl, finF_of (ob := (oP1_pr_bond l L f base)) (by kernel_rfl) ⟨?_, ?_, ?_, trivial⟩⟩ <;> (first | (unfold bonN; rw [if_pos (by omega)]; done) | (unfold bonD; rw [if_pos (by omega)]; done) | (unfold bonE; rw [if_pos (by omega)]; done) | (unfold bonN; rw [if_neg (by omega), hd]; done) | (unfold bonD; rw [if_neg (by omega), hd]; done) | (unfold bonE; rw [if_neg (by omega), hd]; done) | (unfold bonE; rw [if_neg (by omega), hd]; exact he0))
        · by_cases q5 : (L.length : Int) > 100
          · refine Ok.ev2 400 [.d, .f true (.bool true), .d, .d, .d, .v (.bool false), .d, .d, .d, .v (.bool false), .d, .d, .d, .v (iV (L.length : Int)), .v (.bool true), .d, .d, .d, .d, .d] [1, 2, 3, 4, 8, 9, 12, 34] 2 (st' := (stX .any 58 ((sP_pr_bond L f base) ++ [(34, .bool true)]) (mP_pr_bond l))) (e := .normal) (ob := ((oP_pr_bond L f base) ++ [(.bool (decide ((L.length : Int) > 100)) : AV) = (.bool true : AV)])) ⟨(pb62_21 hl hL hf hbase q1 q2), (bF q3), (bF q4), len_map, (bT q5), trivial⟩ ?_
            refine seq_n ?_
            refine Ok.ev2 400 [.d, .d, .d, .d] [8, 9] 2 (st' := (stX .any 58 [(8, .ptr 1 0), (9, iV 1)] (mP_pr_bond l))) (e := .ret) (ob := []) trivial ?_
            refine seq_r ?_
            refine ⟨.inr rfl, finF_of (ob := (oP1_pr_bond l L f base)) (by kernel_rfl) ⟨?_, ?_, ?_, trivial⟩⟩ <;> (first | (unfold bonN; rw [if_pos (by omega)]; done) | (unfold bonD; rw [if_pos (by omega)]; done) | (unfold bonE; rw [if_pos (by omega)]; done) | (unfold bonN; rw [if_neg (by omega), hd]; done) | (unfold bonD; rw [if_neg (by omega), hd]; done) | (unfold bonE; rw [if_neg (by omega), hd]; done) | (unfold bonE; rw [if_neg (by omega), hd]; exact he0))
          · by_cases q6 : (idxF wrongK L) ≥ 0
            · refine Ok.ev2 400 [.d, .f true (.bool true), .d, .d, .d, .v (.bool false), .d, .d, .d, .v (.bool false), .d, .d, .d, .v (iV (L.length : Int)), .v (.bool false), .d, .d, .d, .f true (.bool true), .d] [1, 2, 3, 4, 8, 9, 12, 34] 2 (st' := (stX .any 58 ((sP_pr_bond L f base) ++ [(34, .bool true)]) (mP_pr_bond l))) (e := .normal) (ob := ((oP_pr_bond L f base) ++ [(.bool (decide ((L.length : Int) > 100)) : AV) = (.bool false : AV), FnF Try.prog 63 true [.list (L.map encK), .func (.func 53) [] []] (.bool true)])) ⟨(pb62_21 hl hL hf hbase q1 q2), (bF q3), (bF q4), len_map, (bF q5), (pb63_22 hl hL hf hbase q1 q2 q3 q4 q5 q6), trivial⟩ ?_
              refine seq_n ?_
              refine Ok.ev2 400 [.d, .d, .d, .d] [8, 9] 2 (st' := (stX .any 58 [(8, .ptr 1 0), (9, iV 1)] (mP_pr_bond l))) (e := .ret) (ob := []) trivial ?_
              refine seq_r ?_
              refine ⟨.inr rfl, finF_of (ob := (oP1_pr_bond l L f base)) (by kernel_rfl) ⟨?_, ?_, ?_, trivial⟩⟩ <;> (first | (unfold bonN; rw [if_pos (by omega)]; done) | (unfold bonD; rw [if_pos (by omega)]; done) | (unfold bonE; rw [if_pos (by omega)]; done) | (unfold bonN; rw [if_neg (by omega), hd]; done) | (unfold bonD; rw [if_neg (by omega), hd]; done) | (unfold bonE; rw [if_neg (by omega), hd]; done) | (unfold bonE; rw [if_neg (by omega), hd]; exact he0))
            · refine Ok.ev2 400 [.d, .f true (.bool true), .d, .d, .d, .v (.bool false), .d, .d, .d, .v (.bool false), .d, .d, .d, .v (iV (L.length : Int)), .v (.bool false), .d, .d, .d, .f true (.bool false), .d] [1, 2, 3, 4, 8, 9, 12, 34] 2 (st' := (stX .any 58 ((sP_pr_bond L f base) ++ [(34, .bool false)]) (mP_pr_bond l))) (e := .normal) (ob := ((oP_pr_bond L f base) ++ [(.bool (decide ((L.length : Int) > 100)) : AV) = (.bool false : AV), FnF Try.prog 63 true [.list (L.map encK), .func (.func 53) [] []] (.bool false)])) ⟨(pb62_21 hl hL hf hbase q1 q2), (bF q3), (bF q4), len_map, (bF q5), (pb63_23 hl hL hf hbase q1 q2 q3 q4 q5 q6), trivial⟩ ?_
              refine seq_n ?_
              refine Ok.ev2 400 [.d] [1, 2, 3, 4, 8, 9, 10, 11, 12] 2 (st' := (stX .any 58 (sP_pr_bond L f base) (mP_pr_bond l))) (e := .normal) (ob := []) trivial ?_
              refine seq_n ?_
              refine Ok.sq [true, false, true] ?_
              refine Ok.ev2 400 [.d, .f true (.agg [iV base, iV 1]), .d, .d, .d, .d] [1, 2, 4, 8, 9, 10, 11, 12] 4 (st' := (stX .any 58 [(1, .list (L.map encK)), (2, iV f), (4, .ptr 0 0), (8, .ptr 1 0), (9, iV 0), (10, .ptr 2 0), (11, .ptr 3 0), (12, .tuple [])] ((mP_pr_bond l) ++ [.cells [iV base, iV 1], .cells [iV 0]]))) (e := .normal) (ob := [FnF Try.prog 56 true [iV base] (.agg [iV base, iV 1])]) ⟨(pb56_24 hl hL hf hbase q1 q2 q3 q4 q5 q6), trivial⟩ ?_
              refine seq_n ?_
              refine Ok.sq [true, false, true, true] ?_
              refine Ok.ev2 400 [] [1, 2, 4, 8, 9, 10, 11, 12, 40] 4 (st' := (stX .any 58 [(1, .list (L.map encK)), (2, iV f), (4, .ptr 0 0), (8, .ptr 1 0), (9, iV 0), (10, .ptr 2 0), (11, .ptr 3 0), (12, .tuple [])] ((mP_pr_bond l) ++ [.cells [iV base, iV 1], .cells [iV 0]]))) (e := .normal) (ob := []) trivial ?_
              refine seq_n ?_
              refine Ok.sq [true, false, true, true, true] ?_
              refine Ok.sq [true, false, true, true, true, false] ?_
              refine Ok.ev2 400 [.d, .d, .c (.func (.func 87) [] [.ptr 0 0, .ptr 1 0]) [.cells [.list (L.map encK)], .cells [iV f]]] [4, 8, 9, 10, 11, 12, 40] 6 (st' := (stX .any 58 [(4, .ptr 0 0), (8, .ptr 1 0), (9, iV 0), (10, .ptr 2 0), (11, .ptr 3 0), (12, .tuple []), (40, .func (.func 87) [] [.ptr 4 0, .ptr 5 0])] ((mP_pr_bond l) ++ [.cells [iV base, iV 1], .cells [iV 0], .cells [.list (L.map encK)], .cells [iV f]]))) (e := .normal) (ob := [FnM Try.prog 64 [] [.list (L.map encK), iV f] (.func (.func 87) [] [.ptr 0 0, .ptr 1 0]) [.cells [.list (L.map encK)], .cells [iV f]]]) ⟨(pb64_25 hl hL hf hbase q1 q2 q3 q4 q5 q6), trivial⟩ ?_
              refine seq_n ?_
              refine Ok.bk [true, false, true, true, true, false, true] 0 ?_
              refine Ok.rangeP (j := 4) (g := .tmp 40) (ps := #[41]) [true, false, true, true, true, false, true, false] (by kernel_rfl) [4, 8, 9, 10, 11, 12] rfl (bl := true) (args := [.ptrIn (.agg [.list (L.map encK)]) 0, .ptrIn (.agg [iV f]) 0]) (ob := []) (by kernel_rfl) trivial (xs := (ofF f L).map fun r => [encK r]) (of_iter (L := L) (f := f) (by omega)) (len_all (fun _ => rfl)) (by kernel_rfl) (ob2 := []) (by kernel_rfl) trivial (by kernel_rfl) (fun k_ M_ => ∃ (n : Int) (d : Int) (e0 : Int), (e0 = 0) ∧ (Frc n d) ∧ (bondS l ((ofF f L).drop k_) n d = bondS l (ofF f L) base 1) ∧ M_ = [.cells [.list (l.map encQ)], .cells [iV 0, iV 0], .cells [iV n, iV d], .cells [iV e0]]) (fun e_ M_ => (e_ = .exit 0 ∧ ∃ (n : Int) (d : Int) (e : Int), (¬ (e = 0)) ∧ (bondS l (ofF f L) base 1 = (n, d, e)) ∧ M_ = [.cells [.list (l.map encQ)], .cells [iV 0, iV 0], .cells [iV n, iV d], .cells [iV e]])) ⟨base, 1, 0, rfl, (by unfold Frc; omega), rfl, rfl⟩ ?_ ?_ ?_
              · intro k_ x_ M_ hx_ hI_
                obtain ⟨r, hr_, rfl⟩ := range_elem hx_
                obtain ⟨n, d, e0, he0, hf, hb, rfl⟩ := hI_
                have hw : wrongR r.fi r.k r.c = false := of_ok hr_ (by omega)
                have hwb : (0 ≤ r.fi ∧ r.fi ≤ 7) ∧ (1 ≤ r.k ∧ r.k ≤ 14) ∧ 0 ≤ r.c ∧ r.c ≤ 1000000 := of_bd hw
                have hp : Frc (preN (cntQ l r.k) r.fi r.k r.c) (preD (cntQ l r.k) r.fi r.k r.c) := pre_frc (cnt_ok hl _) hw
                refine st_is (st' := (stX .any 58 [(4, .ptr 0 0), (8, .ptr 1 0), (9, iV 0), (10, .ptr 2 0), (11, .ptr 3 0), (12, .tuple []), (41, encK r)] ((mP_pr_bond l) ++ [.cells [iV n, iV d], .cells [iV e0]]))) (by kernel_rfl) ?_
                refine Ok.ev2 400 [.d, .d] [4, 8, 9, 10, 11, 12] 5 (st' := (stX .any 58 [(4, .ptr 0 0), (8, .ptr 1 0), (9, iV 0), (10, .ptr 2 0), (11, .ptr 3 0), (12, .ptr 4 0)] ((mP_pr_bond l) ++ [.cells [iV n, iV d], .cells [iV e0], .cells [iV r.fi, iV r.k, iV r.c]]))) (e := .normal) (ob := []) trivial ?_
                refine ⟨rfl, ?_⟩
                refine Ok.bk [true, false, true, true, true, false, true, false, true] 1 ?_
                refine Ok.sq [true, false, true, true, true, false, true, false, true, false] ?_
                refine Ok.ev2 400 [.d, .d, .f true (.tuple [.agg [iV (preN (cntQ l r.k) r.fi r.k r.c), iV (preD (cntQ l r.k) r.fi r.k r.c)], iV (preE (cntQ l r.k) r.fi r.k r.c)]), .d, .d, .d, .d, .d, .d] [8, 9, 10, 11, 13] 6 (st' := (stX .any 58 [(8, .ptr 1 0), (9, iV 0), (10, .ptr 2 0), (11, .ptr 3 0), (13, .ptr 5 0)] ((mP_pr_bond l) ++ [.cells [iV n, iV d], .cells [iV e0], .cells [iV r.fi, iV r.k, iV r.c], .cells [iV (preN (cntQ l r.k) r.fi r.k r.c), iV (preD (cntQ l r.k) r.fi r.k r.c)]]))) (e := .normal) (ob := [FnF Try.prog 30 true [.list (l.map encQ), .agg [iV r.fi, iV r.k, iV r.c]] (.tuple [.agg [iV (preN (cntQ l r.k) r.fi r.k r.c), iV (preD (cntQ l r.k) r.fi r.k r.c)], iV (preE (cntQ l r.k) r.fi r.k r.c)])]) ⟨pr_premium (l := l) (fi := r.fi) (k := r.k) (c := r.c) hl (by omega) (by omega) (by omega), trivial⟩ ?_
                refine seq_n ?_
                refine Ok.sq [true, false, true, true, true, false, true, false, true, false, true] ?_
                refine Ok.ev2 400 [.d, .d, .f true (.tuple [.agg [iV (addN n d (preN (cntQ l r.k) r.fi r.k r.c) (preD (cntQ l r.k) r.fi r.k r.c)), iV (addD n d (preN (cntQ l r.k) r.fi r.k r.c) (preD (cntQ l r.k) r.fi r.k r.c))], iV (addE n d (preN (cntQ l r.k) r.fi r.k r.c) (preD (cntQ l r.k) r.fi r.k r.c))]), .d, .d, .d, .d, .d] [8, 9, 11] 6 (st' := (stX .any 58 [(8, .ptr 1 0), (9, iV 0), (11, .ptr 3 0)] ((mP_pr_bond l) ++ [.cells [iV (addN n d (preN (cntQ l r.k) r.fi r.k r.c) (preD (cntQ l r.k) r.fi r.k r.c)), iV (addD n d (preN (cntQ l r.k) r.fi r.k r.c) (preD (cntQ l r.k) r.fi r.k r.c))], .cells [iV (addE n d (preN (cntQ l r.k) r.fi r.k r.c) (preD (cntQ l r.k) r.fi r.k r.c))], .cells [iV r.fi, iV r.k, iV r.c], .cells [iV (preN (cntQ l r.k) r.fi r.k r.c), iV (preD (cntQ l r.k) r.fi r.k r.c)]]))) (e := .normal) (ob := [FnF Try.prog 16 true [.agg [iV n, iV d], .agg [iV (preN (cntQ l r.k) r.fi r.k r.c), iV (preD (cntQ l r.k) r.fi r.k r.c)]] (.tuple [.agg [iV (addN n d (preN (cntQ l r.k) r.fi r.k r.c) (preD (cntQ l r.k) r.fi r.k r.c)), iV (addD n d (preN (cntQ l r.k) r.fi r.k r.c) (preD (cntQ l r.k) r.fi r.k r.c))], iV (addE n d (preN (cntQ l r.k) r.fi r.k r.c) (preD (cntQ l r.k) r.fi r.k r.c))])]) ⟨rt_add (a := n) (b := d) (c := (preN (cntQ l r.k) r.fi r.k r.c)) (d := (preD (cntQ l r.k) r.fi r.k r.c)) hf hp, trivial⟩ ?_
                refine seq_n ?_
                refine Ok.sq [true, false, true, true, true, false, true, false, true, false, true, true] ?_
                by_cases q7 : (addE n d (preN (cntQ l r.k) r.fi r.k r.c) (preD (cntQ l r.k) r.fi r.k r.c)) = 0
                · refine Ok.ev2 400 [.d, .v (.bool false)] [8, 9, 55] 6 (st' := (stX .any 58 [(8, .ptr 1 0), (9, iV 0), (55, .bool false)] ((mP_pr_bond l) ++ [.cells [iV (addN n d (preN (cntQ l r.k) r.fi r.k r.c) (preD (cntQ l r.k) r.fi r.k r.c)), iV (addD n d (preN (cntQ l r.k) r.fi r.k r.c) (preD (cntQ l r.k) r.fi r.k r.c))], .cells [iV (addE n d (preN (cntQ l r.k) r.fi r.k r.c) (preD (cntQ l r.k) r.fi r.k r.c))], .cells [iV r.fi, iV r.k, iV r.c], .cells [iV (preN (cntQ l r.k) r.fi r.k r.c), iV (preD (cntQ l r.k) r.fi r.k r.c)]]))) (e := .normal) (ob := [(.bool ((addE n d (preN (cntQ l r.k) r.fi r.k r.c) (preD (cntQ l r.k) r.fi r.k r.c)) != 0) : AV) = (.bool false : AV)]) ⟨(nF q7), trivial⟩ ?_
                  refine seq_n ?_
                  refine Ok.ev2 400 [.d] [] 6 (st' := (stX .any 58 [] ((mP_pr_bond l) ++ [.cells [iV (addN n d (preN (cntQ l r.k) r.fi r.k r.c) (preD (cntQ l r.k) r.fi r.k r.c)), iV (addD n d (preN (cntQ l r.k) r.fi r.k r.c) (preD (cntQ l r.k) r.fi r.k r.c))], .cells [iV (addE n d (preN (cntQ l r.k) r.fi r.k r.c) (preD (cntQ l r.k) r.fi r.k r.c))], .cells [iV r.fi, iV r.k, iV r.c], .cells [iV (preN (cntQ l r.k) r.fi r.k r.c), iV (preD (cntQ l r.k) r.fi r.k r.c)]]))) (e := .normal) (ob := []) trivial ?_
                  refine blk_n ?_
                  exact round_n (stX .any 58 [] ((mP_pr_bond l) ++ [.cells [iV (addN n d (preN (cntQ l r.k) r.fi r.k r.c) (preD (cntQ l r.k) r.fi r.k r.c)), iV (addD n d (preN (cntQ l r.k) r.fi r.k r.c) (preD (cntQ l r.k) r.fi r.k r.c))], .cells [iV (addE n d (preN (cntQ l r.k) r.fi r.k r.c) (preD (cntQ l r.k) r.fi r.k r.c))]])) (ob := []) (by kernel_rfl) trivial ⟨(addN n d (preN (cntQ l r.k) r.fi r.k r.c) (preD (cntQ l r.k) r.fi r.k r.c)), (addD n d (preN (cntQ l r.k) r.fi r.k r.c) (preD (cntQ l r.k) r.fi r.k r.c)), (addE n d (preN (cntQ l r.k) r.fi r.k r.c) (preD (cntQ l r.k) r.fi r.k r.c)), (by assumption), frc_add hf hp (by assumption), bond_next hr_ (by assumption) hb, rfl⟩
                · refine Ok.ev2 400 [.d, .v (.bool true)] [8, 9, 55] 6 (st' := (stX .any 58 [(8, .ptr 1 0), (9, iV 0), (55, .bool true)] ((mP_pr_bond l) ++ [.cells [iV (addN n d (preN (cntQ l r.k) r.fi r.k r.c) (preD (cntQ l r.k) r.fi r.k r.c)), iV (addD n d (preN (cntQ l r.k) r.fi r.k r.c) (preD (cntQ l r.k) r.fi r.k r.c))], .cells [iV (addE n d (preN (cntQ l r.k) r.fi r.k r.c) (preD (cntQ l r.k) r.fi r.k r.c))], .cells [iV r.fi, iV r.k, iV r.c], .cells [iV (preN (cntQ l r.k) r.fi r.k r.c), iV (preD (cntQ l r.k) r.fi r.k r.c)]]))) (e := .normal) (ob := [(.bool ((addE n d (preN (cntQ l r.k) r.fi r.k r.c) (preD (cntQ l r.k) r.fi r.k r.c)) != 0) : AV) = (.bool true : AV)]) ⟨(nT q7), trivial⟩ ?_
                  refine seq_n ?_
                  refine Ok.ev2 400 [.d] [] 6 (st' := (stX .any 58 [] ((mP_pr_bond l) ++ [.cells [iV (addN n d (preN (cntQ l r.k) r.fi r.k r.c) (preD (cntQ l r.k) r.fi r.k r.c)), iV (addD n d (preN (cntQ l r.k) r.fi r.k r.c) (preD (cntQ l r.k) r.fi r.k r.c))], .cells [iV (addE n d (preN (cntQ l r.k) r.fi r.k r.c) (preD (cntQ l r.k) r.fi r.k r.c))], .cells [iV r.fi, iV r.k, iV r.c], .cells [iV (preN (cntQ l r.k) r.fi r.k r.c), iV (preD (cntQ l r.k) r.fi r.k r.c)]]))) (e := (.exit 0)) (ob := []) trivial ?_
                  refine blkQ_on rfl ?_
                  exact round_e (stX .any 58 [] ((mP_pr_bond l) ++ [.cells [iV (addN n d (preN (cntQ l r.k) r.fi r.k r.c) (preD (cntQ l r.k) r.fi r.k r.c)), iV (addD n d (preN (cntQ l r.k) r.fi r.k r.c) (preD (cntQ l r.k) r.fi r.k r.c))], .cells [iV (addE n d (preN (cntQ l r.k) r.fi r.k r.c) (preD (cntQ l r.k) r.fi r.k r.c))]])) (ob := []) (by kernel_rfl) trivial (⟨rfl, (addN n d (preN (cntQ l r.k) r.fi r.k r.c) (preD (cntQ l r.k) r.fi r.k r.c)), (addD n d (preN (cntQ l r.k) r.fi r.k r.c) (preD (cntQ l r.k) r.fi r.k r.c)), (addE n d (preN (cntQ l r.k) r.fi r.k r.c) (preD (cntQ l r.k) r.fi r.k r.c)), (by assumption), bond_stop hr_ (by assumption) hb, rfl⟩)
              · intro M_ hI_
                obtain ⟨n, d, e0, he0, hf, hb, rfl⟩ := hI_
                have hd : bondS l (ofF f L) base 1 = (n, d, 0) := bond_done hb
                refine st_to (s' := (stX .any 58 [(4, .ptr 0 0), (8, .ptr 1 0), (9, iV 0), (10, .ptr 2 0), (11, .ptr 3 0), (12, .tuple [])] ((mP_pr_bond l) ++ [.cells [iV n, iV d], .cells [iV e0]]))) (by kernel_rfl) ?_
                refine blk_n ?_
                refine seq_n ?_
                refine Ok.ev2 400 [.d, .d, .d, .d] [8, 9] 4 (st' := (stX .any 58 [(8, .ptr 1 0), (9, iV e0)] [.cells [.list (l.map encQ)], .cells [iV n, iV d], .cells [iV n, iV d], .cells [iV e0]])) (e := .ret) (ob := []) trivial ?_
                refine ⟨.inr rfl, finF_of (ob := [(n : Int) = bonN l L f base, (d : Int) = bonD l L f base, (e0 : Int) = bonE l L f base]) (by kernel_rfl) ⟨?_, ?_, ?_, trivial⟩⟩ <;> (first | (unfold bonN; rw [if_pos (by omega)]; done) | (unfold bonD; rw [if_pos (by omega)]; done) | (unfold bonE; rw [if_pos (by omega)]; done) | (unfold bonN; rw [if_neg (by omega), hd]; done) | (unfold bonD; rw [if_neg (by omega), hd]; done) | (unfold bonE; rw [if_neg (by omega), hd]; done) | (unfold bonE; rw [if_neg (by omega), hd]; exact he0))
              · intro e_ M_ hne_ hI_
                rcases hI_ with ⟨rfl, n, d, e, he, hd, rfl⟩
                refine st_to (s' := (stX .any 58 [(4, .ptr 0 0), (8, .ptr 1 0), (9, iV 0), (10, .ptr 2 0), (11, .ptr 3 0), (12, .tuple [])] ((mP_pr_bond l) ++ [.cells [iV n, iV d], .cells [iV e]]))) (by kernel_rfl) ?_
                refine blkQ_here ?_
                refine seq_n ?_
                refine Ok.ev2 400 [.d, .d, .d, .d] [8, 9] 4 (st' := (stX .any 58 [(8, .ptr 1 0), (9, iV e)] [.cells [.list (l.map encQ)], .cells [iV n, iV d], .cells [iV n, iV d], .cells [iV e]])) (e := .ret) (ob := []) trivial ?_
                refine ⟨.inr rfl, finF_of (ob := [(n : Int) = bonN l L f base, (d : Int) = bonD l L f base, (e : Int) = bonE l L f base]) (by kernel_rfl) ⟨?_, ?_, ?_, trivial⟩⟩ <;> (first | (unfold bonN; rw [if_pos (by omega)]; done) | (unfold bonD; rw [if_pos (by omega)]; done) | (unfold bonE; rw [if_pos (by omega)]; done) | (unfold bonN; rw [if_neg (by omega), hd]; done) | (unfold bonD; rw [if_neg (by omega), hd]; done) | (unfold bonE; rw [if_neg (by omega), hd]; done) | (unfold bonE; rw [if_neg (by omega), hd]; exact he0))
    · refine Ok.ev2 400 [.d, .f true (.bool false), .d, .d, .d, .d, .d, .d, .d, .d, .d, .d, .d, .d, .d, .d, .d, .d, .d, .d] [1, 2, 3, 4, 8, 9, 12, 34] 2 (st' := (stX .any 58 ((sP_pr_bond L f base) ++ [(34, .bool true)]) (mP_pr_bond l))) (e := .normal) (ob := [FnF Try.prog 62 true [iV f] (.bool false)]) ⟨(pb62_26 hl hL hf hbase q1 q2), trivial⟩ ?_
      refine seq_n ?_
      refine Ok.ev2 400 [.d, .d, .d, .d] [8, 9] 2 (st' := (stX .any 58 [(8, .ptr 1 0), (9, iV 1)] (mP_pr_bond l))) (e := .ret) (ob := []) trivial ?_
      refine seq_r ?_
      refine ⟨.inr rfl, finF_of (ob := (oP1_pr_bond l L f base)) (by kernel_rfl) ⟨?_, ?_, ?_, trivial⟩⟩ <;> (first | (unfold bonN; rw [if_pos (by omega)]; done) | (unfold bonD; rw [if_pos (by omega)]; done) | (unfold bonE; rw [if_pos (by omega)]; done) | (unfold bonN; rw [if_neg (by omega), hd]; done) | (unfold bonD; rw [if_neg (by omega), hd]; done) | (unfold bonE; rw [if_neg (by omega), hd]; done) | (unfold bonE; rw [if_neg (by omega), hd]; exact he0))
  · refine Ok.ev2 400 [.d, .f true (.bool false), .d, .d, .d, .d, .d, .d, .d, .d, .d, .d, .d, .d, .d, .d, .d, .d, .d, .d] [1, 2, 3, 4, 8, 9, 12, 34] 2 (st' := (stX .any 58 ((sP_pr_bond L f base) ++ [(34, .bool true)]) (mP_pr_bond l))) (e := .normal) (ob := [FnF Try.prog 62 true [iV f] (.bool false)]) ⟨(pb62_27 hl hL hf hbase q1), trivial⟩ ?_
    refine seq_n ?_
    refine Ok.ev2 400 [.d, .d, .d, .d] [8, 9] 2 (st' := (stX .any 58 [(8, .ptr 1 0), (9, iV 1)] (mP_pr_bond l))) (e := .ret) (ob := []) trivial ?_
    refine seq_r ?_
    refine ⟨.inr rfl, finF_of (ob := (oP1_pr_bond l L f base)) (by kernel_rfl) ⟨?_, ?_, ?_, trivial⟩⟩ <;> (first | (unfold bonN; rw [if_pos (by omega)]; done) | (unfold bonD; rw [if_pos (by omega)]; done) | (unfold bonE; rw [if_pos (by omega)]; done) | (unfold bonN; rw [if_neg (by omega), hd]; done) | (unfold bonD; rw [if_neg (by omega), hd]; done) | (unfold bonE; rw [if_neg (by omega), hd]; done) | (unfold bonE; rw [if_neg (by omega), hd]; exact he0))

end Go.Proofs.Ytkijlggnnbdeiaa
