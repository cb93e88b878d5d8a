/- Examples -/
import Derived.Test.YtkijlggnnbdeiaaPrRef
import Derived.Test.YtkijlggnnbdeiaaProg
set_option linter.unusedVariables false
set_option linter.unusedSimpArgs false
namespace Go.Proofs.Ytkijlggnnbdeiaa
open Go.RowKit
set_option maxRecDepth 100000

theorem ex_right : RightP [(⟨1, 3, 1⟩ : An)] := by
  intro n hn
  have : n = 0 := by simp at hn; omega
  subst this
  simp [OkAt]
theorem opn_acc {l : List An} {L : List Rk} {m base : Int} {n : Nat} {acc : List Ac} (h : ¬ (m < 1 ∨ 8 < m)) (e : m.toNat = n) (hb : opnBad l L base n = 0) (ha : acc = opnF l L base n) : opnL l L m base = acc := by
  unfold opnL; rw [if_neg h, e, if_pos hb, ha]

def sP_pr_openM (l : List An) (L : List Rk) (base : Int) : List (Nat × AV) := [(0, .list (l.map encQ)), (1, .list (L.map encK)), (3, .int .i64 base)]
theorem pr_openM {l : List An} {L : List Rk} {m base : Int} (hl : RightP l) (hL : L.length < 1000000) (hm : -9223372036854775808 ≤ m ∧ m ≤ 9223372036854775807) (hbase : -9223372036854775808 ≤ base ∧ base ≤ 9223372036854775807) (hne : opnE l L m base = 0) : FnM Try.prog 40 [] [.list (l.map encQ), .list (L.map encK), .int .i64 m, .int .i64 base] (.tuple [.slice 0 0 ((opnL l L m base).length) 0, .int .i64 0]) [.row 3 ((opnL l L m base).map encC) 0] := by
  refine fn_walk Try.func40 (by kernel_rfl) (by kernel_rfl) (by kernel_rfl) (st := (stX (.tuple []) 43 [(0, .list (l.map encQ)), (1, .list (L.map encK)), (2, .int .i64 m), (3, .int .i64 base)] [])) rfl ?_
  refine Ok.seqP [] (by kernel_rfl) ?_
  refine Ok.evf (by kernel_rfl) 400 [.d, .d] [0, 1, 2, 3, 8, 9] 0 (st' := (stX .any 43 [(0, .list (l.map encQ)), (1, .list (L.map encK)), (2, .int .i64 m), (3, .int .i64 base), (8, .nilslice), (9, .int .i64 0)] [])) (e := .normal) (ob := []) (by kernel_rfl) trivial ?_
  refine seq_n ?_
  refine Ok.seqP [true] (by kernel_rfl) ?_
  refine Ok.seqP [true, false] (by kernel_rfl) ?_
  by_cases q1 : m < 1
  · refine Ok.evf (by kernel_rfl) 400 [.d, .v (.bool true), .d, .d, .d, .d] [0, 1, 2, 3, 8, 9, 19] 0 (st' := (stX .any 43 [(0, .list (l.map encQ)), (1, .list (L.map encK)), (2, .int .i64 m), (3, .int .i64 base), (8, .nilslice), (9, .int .i64 0), (19, .bool true)] [])) (e := .normal) (ob := [(.bool (decide (m < 1)) : AV) = (.bool true : AV)]) (by kernel_rfl) ⟨(bT q1), trivial⟩ ?_
    refine seq_n ?_
    refine Ok.evf (by kernel_rfl) 400 [.d, .d, .d] [8, 9] 0 (st' := (stX .any 43 [(8, .nilslice), (9, .int .i64 1)] [])) (e := .ret) (ob := []) (by kernel_rfl) trivial ?_
    refine seq_r ?_
    exact absurd hne (by first | (unfold opnE; rw [if_pos (by omega)]; decide) | (unfold opnE; rw [if_neg (by omega), opn_stuck hbad (by assumption) _ (by omega)]; assumption) | (exfalso; omega))
  · by_cases q2 : m > 8
    · refine Ok.evf (by kernel_rfl) 400 [.d, .v (.bool false), .d, .d, .v (.bool true), .d] [0, 1, 2, 3, 8, 9, 19] 0 (st' := (stX .any 43 [(0, .list (l.map encQ)), (1, .list (L.map encK)), (2, .int .i64 m), (3, .int .i64 base), (8, .nilslice), (9, .int .i64 0), (19, .bool true)] [])) (e := .normal) (ob := [(.bool (decide (m < 1)) : AV) = (.bool false : AV),
        (.bool (decide (m > 8)) : AV) = (.bool true : AV)]) (by kernel_rfl) ⟨(bF q1), (bT q2), trivial⟩ ?_
      refine seq_n ?_
      refine Ok.evf (by kernel_rfl) 400 [.d, .d, .d] [8, 9] 0 (st' := (stX .any 43 [(8, .nilslice), (9, .int .i64 1)] [])) (e := .ret) (ob := []) (by kernel_rfl) trivial ?_
      refine seq_r ?_
      exact absurd hne (by first | (unfold opnE; rw [if_pos (by omega)]; decide) | (unfold opnE; rw [if_neg (by omega), opn_stuck hbad (by assumption) _ (by omega)]; assumption) | (exfalso; omega))
    · refine Ok.evf (by kernel_rfl) 400 [.d, .v (.bool false), .d, .d, .v (.bool false), .d] [0, 1, 2, 3, 8, 9, 19] 0 (st' := (stX .any 43 [(0, .list (l.map encQ)), (1, .list (L.map encK)), (2, .int .i64 m), (3, .int .i64 base), (8, .nilslice), (9, .int .i64 0), (19, .bool false)] [])) (e := .normal) (ob := [(.bool (decide (m < 1)) : AV) = (.bool false : AV),
        (.bool (decide (m > 8)) : AV) = (.bool false : AV)]) (by kernel_rfl) ⟨(bF q1), (bF q2), trivial⟩ ?_
      refine seq_n ?_
      refine Ok.evf (by kernel_rfl) 400 [.d] [0, 1, 2, 3, 8, 9, 10] 0 (st' := (stX .any 43 [(0, .list (l.map encQ)), (1, .list (L.map encK)), (2, .int .i64 m), (3, .int .i64 base), (8, .nilslice), (9, .int .i64 0)] [])) (e := .normal) (ob := []) (by kernel_rfl) trivial ?_
      refine seq_n ?_
      refine Ok.seqP [true, true] (by kernel_rfl) ?_
      refine Ok.evf (by kernel_rfl) 400 [.d] [0, 1, 2, 3, 8, 9, 10, 20, 21] 0 (st' := (stX .any 43 [(0, .list (l.map encQ)), (1, .list (L.map encK)), (2, .int .i64 m), (3, .int .i64 base), (8, .nilslice), (9, .int .i64 0), (10, .nilslice)] [])) (e := .normal) (ob := []) (by kernel_rfl) trivial ?_
      refine seq_n ?_
      refine Ok.seqP [true, true, true] (by kernel_rfl) ?_
      refine Ok.seqP [true, true, true, false] (by kernel_rfl) ?_
      refine Ok.evf (by kernel_rfl) 400 [.d, .d] [0, 1, 3, 10, 20, 21] 0 (st' := (stX .any 43 ((sP_pr_openM l L base) ++ [(10, .nilslice), (20, .int .i64 m), (21, .int .i64 0)]) [])) (e := .normal) (ob := []) (by kernel_rfl) trivial ?_
      refine seq_n ?_
      refine Ok.blockP [true, true, true, false, true] 0 (by kernel_rfl) ?_
      refine Ok.loopB [true, true, true, false, true, false] (by kernel_rfl) (fun m_ s_ => (∃ (n : Nat), (((n : Nat) : Int) ≤ m) ∧ (n = 0) ∧ (opnBad l L base n = 0) ∧ m_ = m.toNat - n ∧ s_ = (stX .any 43 ((sP_pr_openM l L base) ++ [(10, .nilslice), (20, .int .i64 m), (21, .int .i64 ((n : Nat) : Int))]) [])) ∨ (∃ (n : Nat) (acc : List Ac) (u0 : Int) (v0 : Int) (x0 : Ac), (((n : Nat) : Int) ≤ m) ∧ (acc = opnF l L base n) ∧ (opnBad l L base n = 0) ∧ m_ = m.toNat - n ∧ s_ = (stX .any 43 ((sP_pr_openM l L base) ++ [(10, .slice 2 0 acc.length 0), (20, .int .i64 m), (21, .int .i64 ((n : Nat) : Int))]) [.cells [.int .i64 u0, .int .i64 v0], .row 3 [encC x0] 0, .row 3 (acc.map encC) 0]))) (m.toNat - 0) (.inl (⟨0, (by omega), rfl, rfl, rfl, rfl⟩)) ?_
      rintro m_ s_ (⟨n, hn, h0, hbad, rfl, rfl⟩ | ⟨n, acc, u0, v0, x0, hn, hacc, hbad, rfl, rfl⟩)
      · refine Ok.seqP [true, true, true, false, true, false, false] (by kernel_rfl) ?_
        refine Ok.evf (by kernel_rfl) 400 [.v (.bool true)] [0, 1, 3, 8, 9, 10, 20, 21, 22] 0 (st' := (stX .any 43 ((sP_pr_openM l L base) ++ [(10, .nilslice), (20, .int .i64 m), (21, .int .i64 ((n : Nat) : Int)), (22, .bool true)]) [])) (e := .normal) (ob := [(.bool (decide (((n : Nat) : Int) < m)) : AV) = (.bool true : AV)]) (by kernel_rfl) ⟨(bT (by omega)), trivial⟩ ?_
        refine seq_n ?_
        refine Ok.seqP [true, true, true, false, true, false, false, true] (by kernel_rfl) ?_
        refine Ok.evf (by kernel_rfl) 400 [.d] [0, 1, 3, 8, 9, 10, 20, 21] 0 (st' := (stX .any 43 ((sP_pr_openM l L base) ++ [(10, .nilslice), (20, .int .i64 m), (21, .int .i64 ((n : Nat) : Int))]) [])) (e := .normal) (ob := []) (by kernel_rfl) trivial ?_
        refine seq_n ?_
        refine Ok.seqP [true, true, true, false, true, false, false, true, true] (by kernel_rfl) ?_
        refine Ok.blockP [true, true, true, false, true, false, false, true, true, false] 1 (by kernel_rfl) ?_
        refine Ok.seqP [true, true, true, false, true, false, false, true, true, false, false] (by kernel_rfl) ?_
        refine Ok.evf (by kernel_rfl) 400 [.d, .d] [0, 1, 3, 8, 9, 10, 11, 20, 21] 0 (st' := (stX .any 43 ((sP_pr_openM l L base) ++ [(10, .nilslice), (11, .int .i64 ((n : Nat) : Int)), (20, .int .i64 m), (21, .int .i64 ((n : Nat) : Int))]) [])) (e := .normal) (ob := []) (by kernel_rfl) trivial ?_
        refine seq_n ?_
        refine Ok.seqP [true, true, true, false, true, false, false, true, true, false, false, true] (by kernel_rfl) ?_
        refine Ok.evf (by kernel_rfl) 400 [.d, .d, .d, .d, .f true (.tuple [.agg [.int .i64 (bonN l L ((n : Nat) : Int) base), .int .i64 (bonD l L ((n : Nat) : Int) base)], .int .i64 (bonE l L ((n : Nat) : Int) base)]), .d, .d, .d, .d, .d, .d] [0, 1, 3, 8, 9, 10, 11, 12, 13, 20, 21] 1 (st' := (stX .any 43 ((sP_pr_openM l L base) ++ [(10, .nilslice), (11, .int .i64 ((n : Nat) : Int)), (12, .ptr 0 0), (13, .int .i64 (bonE l L ((n : Nat) : Int) base)), (20, .int .i64 m), (21, .int .i64 ((n : Nat) : Int))]) [.cells [.int .i64 (bonN l L ((n : Nat) : Int) base), .int .i64 (bonD l L ((n : Nat) : Int) base)]])) (e := .normal) (ob := [FnF Try.prog 33 true [.list (l.map encQ), .list (L.map encK), .int .i64 ((n : Nat) : Int), .int .i64 base] (.tuple [.agg [.int .i64 (bonN l L ((n : Nat) : Int) base), .int .i64 (bonD l L ((n : Nat) : Int) base)], .int .i64 (bonE l L ((n : Nat) : Int) base)])]) (by kernel_rfl) ⟨pr_bond (l := l) (L := L) (f := ((n : Nat) : Int)) (base := base) hl (by omega) (by omega) (by omega), trivial⟩ ?_
        refine seq_n ?_
        refine Ok.seqP [true, true, true, false, true, false, false, true, true, false, false, true, true] (by kernel_rfl) ?_
        refine Ok.seqP [true, true, true, false, true, false, false, true, true, false, false, true, true, false] (by kernel_rfl) ?_
        by_cases q3 : (bonE l L ((n : Nat) : Int) base) = 0
        · refine Ok.evf (by kernel_rfl) 400 [.d, .v (.bool false)] [0, 1, 3, 8, 9, 10, 11, 12, 13, 20, 21, 33] 1 (st' := (stX .any 43 ((sP_pr_openM l L base) ++ [(10, .nilslice), (11, .int .i64 ((n : Nat) : Int)), (12, .ptr 0 0), (13, .int .i64 (bonE l L ((n : Nat) : Int) base)), (20, .int .i64 m), (21, .int .i64 ((n : Nat) : Int)), (33, .bool false)]) [.cells [.int .i64 (bonN l L ((n : Nat) : Int) base), .int .i64 (bonD l L ((n : Nat) : Int) base)]])) (e := .normal) (ob := [(.bool ((bonE l L ((n : Nat) : Int) base) != 0) : AV) = (.bool false : AV)]) (by kernel_rfl) ⟨(nF q3), trivial⟩ ?_
          refine seq_n ?_
          refine Ok.evf (by kernel_rfl) 400 [.d] [0, 1, 3, 8, 9, 10, 11, 12, 20, 21] 1 (st' := (stX .any 43 ((sP_pr_openM l L base) ++ [(10, .nilslice), (11, .int .i64 ((n : Nat) : Int)), (12, .ptr 0 0), (20, .int .i64 m), (21, .int .i64 ((n : Nat) : Int))]) [.cells [.int .i64 (bonN l L ((n : Nat) : Int) base), .int .i64 (bonD l L ((n : Nat) : Int) base)]])) (e := .normal) (ob := []) (by kernel_rfl) trivial ?_
          refine seq_n ?_
          refine Ok.evf (by kernel_rfl) 400 [.d, .d, .d, .d, .d, .d, .d] [0, 1, 3, 8, 9, 10, 20, 21] 3 (st' := (stX .any 43 ((sP_pr_openM l L base) ++ [(10, .slice 2 0 1 0), (20, .int .i64 m), (21, .int .i64 ((n : Nat) : Int))]) [.cells [.int .i64 (bonN l L ((n : Nat) : Int) base), .int .i64 (bonD l L ((n : Nat) : Int) base)], .row 3 [.agg [.int .i64 ((n : Nat) : Int), .int .i64 (bonN l L ((n : Nat) : Int) base), .int .i64 (bonD l L ((n : Nat) : Int) base)]] 0, .row 3 [.agg [.int .i64 ((n : Nat) : Int), .int .i64 (bonN l L ((n : Nat) : Int) base), .int .i64 (bonD l L ((n : Nat) : Int) base)]] 0])) (e := .normal) (ob := [∀ e ∈ ([.agg [.int .i64 ((n : Nat) : Int), .int .i64 (bonN l L ((n : Nat) : Int) base), .int .i64 (bonD l L ((n : Nat) : Int) base)]] : List AV), belowV 3 e = true,
        ∀ e ∈ ([.agg [.int .i64 ((n : Nat) : Int), .int .i64 (bonN l L ((n : Nat) : Int) base), .int .i64 (bonD l L ((n : Nat) : Int) base)]] : List AV), belowV 3 e = true,
        (2 * ([.agg [.int .i64 ((n : Nat) : Int), .int .i64 (bonN l L ((n : Nat) : Int) base), .int .i64 (bonD l L ((n : Nat) : Int) base)]] : List AV).length + 1024) * 24 ≤ 2 ^ 48,
        ∀ y ∈ ([.agg [.int .i64 ((n : Nat) : Int), .int .i64 (bonN l L ((n : Nat) : Int) base), .int .i64 (bonD l L ((n : Nat) : Int) base)]] : List AV), (cellsOf y).length = 3 ∧ ∀ c ∈ cellsOf y, isCell c = true]) (by kernel_rfl) ⟨(by simp [belowV, idsOf, idsL, encQ, encW, encK, encC, encF]), (by simp [belowV, idsOf, idsL, encQ, encW, encK, encC, encF]), (by simp), (by simp [cellsOf, isCell, encQ, encW, encK, encC, encF]), trivial⟩ ?_
          refine blk_n ?_
          refine seq_n ?_
          refine Ok.evf (by kernel_rfl) 400 [.v (.int .i64 (((n : Nat) : Int) + 1)), .d] [0, 1, 3, 10, 20, 21] 3 (st' := (stX .any 43 ((sP_pr_openM l L base) ++ [(10, .slice 2 0 1 0), (20, .int .i64 m), (21, .int .i64 (((n : Nat) : Int) + 1))]) [.cells [.int .i64 (bonN l L ((n : Nat) : Int) base), .int .i64 (bonD l L ((n : Nat) : Int) base)], .row 3 [.agg [.int .i64 ((n : Nat) : Int), .int .i64 (bonN l L ((n : Nat) : Int) base), .int .i64 (bonD l L ((n : Nat) : Int) base)]] 0, .row 3 [.agg [.int .i64 ((n : Nat) : Int), .int .i64 (bonN l L ((n : Nat) : Int) base), .int .i64 (bonD l L ((n : Nat) : Int) base)]] 0])) (e := .normal) (ob := [∀ e ∈ ([.agg [.int .i64 ((n : Nat) : Int), .int .i64 (bonN l L ((n : Nat) : Int) base), .int .i64 (bonD l L ((n : Nat) : Int) base)]] : List AV), belowV 3 e = true,
        ∀ e ∈ ([.agg [.int .i64 ((n : Nat) : Int), .int .i64 (bonN l L ((n : Nat) : Int) base), .int .i64 (bonD l L ((n : Nat) : Int) base)]] : List AV), belowV 3 e = true,
        (.int .i64 (IntKind.wrap .i64 (((n : Nat) : Int) + 1)) : AV) = (.int .i64 (((n : Nat) : Int) + 1) : AV)]) (by kernel_rfl) ⟨(by simp [belowV, idsOf, idsL, encQ, encW, encK, encC, encF]), (by simp [belowV, idsOf, idsL, encQ, encW, encK, encC, encF]), iW (w64 (by omega) (by omega)), trivial⟩ ?_
          exact loop_g [0, 1, 3, 10, 20, 21] 3 (m.toNat - (n + 1)) (by omega) rfl (s' := (stX .any 43 ((sP_pr_openM l L base) ++ [(10, .slice 2 0 1 0), (20, .int .i64 m), (21, .int .i64 (((n : Nat) : Int) + 1))]) [.cells [.int .i64 (bonN l L ((n : Nat) : Int) base), .int .i64 (bonD l L ((n : Nat) : Int) base)], .row 3 [.agg [.int .i64 ((n : Nat) : Int), .int .i64 (bonN l L ((n : Nat) : Int) base), .int .i64 (bonD l L ((n : Nat) : Int) base)]] 0, .row 3 [.agg [.int .i64 ((n : Nat) : Int), .int .i64 (bonN l L ((n : Nat) : Int) base), .int .i64 (bonD l L ((n : Nat) : Int) base)]] 0])) (ob := [∀ e ∈ ([.agg [.int .i64 ((n : Nat) : Int), .int .i64 (bonN l L ((n : Nat) : Int) base), .int .i64 (bonD l L ((n : Nat) : Int) base)]] : List AV), idsOf e = [],
        ∀ e ∈ ([.agg [.int .i64 ((n : Nat) : Int), .int .i64 (bonN l L ((n : Nat) : Int) base), .int .i64 (bonD l L ((n : Nat) : Int) base)]] : List AV), idsOf e = []]) (by kernel_rfl) ⟨(by simp [idsOf, idsL, encQ, encW, encK, encC, encF]), (by simp [idsOf, idsL, encQ, encW, encK, encC, encF]), trivial⟩ (.inr (⟨(n + 1), ([(⟨((n : Nat) : Int), bonN l L ((n : Nat) : Int) base, bonD l L ((n : Nat) : Int) base⟩ : Ac)]), (bonN l L ((n : Nat) : Int) base), (bonD l L ((n : Nat) : Int) base), (⟨((n : Nat) : Int), bonN l L ((n : Nat) : Int) base, bonD l L ((n : Nat) : Int) base⟩ : Ac), (by omega), (by rw [show n = 0 from ‹n = 0›]; rfl), opn_s0 hbad (by assumption), rfl, by first | rfl | (rw [List.length_append]; rfl)⟩))
        · refine Ok.evf (by kernel_rfl) 400 [.d, .v (.bool true)] [0, 1, 3, 8, 9, 10, 11, 12, 13, 20, 21, 33] 1 (st' := (stX .any 43 ((sP_pr_openM l L base) ++ [(10, .nilslice), (11, .int .i64 ((n : Nat) : Int)), (12, .ptr 0 0), (13, .int .i64 (bonE l L ((n : Nat) : Int) base)), (20, .int .i64 m), (21, .int .i64 ((n : Nat) : Int)), (33, .bool true)]) [.cells [.int .i64 (bonN l L ((n : Nat) : Int) base), .int .i64 (bonD l L ((n : Nat) : Int) base)]])) (e := .normal) (ob := [(.bool ((bonE l L ((n : Nat) : Int) base) != 0) : AV) = (.bool true : AV)]) (by kernel_rfl) ⟨(nT q3), trivial⟩ ?_
          refine seq_n ?_
          refine Ok.evf (by kernel_rfl) 400 [.d, .d, .d, .d] [8, 9] 1 (st' := (stX .any 43 [(8, .nilslice), (9, .int .i64 (bonE l L ((n : Nat) : Int) base))] [.cells [.int .i64 (bonN l L ((n : Nat) : Int) base), .int .i64 (bonD l L ((n : Nat) : Int) base)]])) (e := .ret) (ob := []) (by kernel_rfl) trivial ?_
          refine seq_r ?_
          refine blk_r ?_
          refine seq_r ?_
          refine loopg_r ?_
          refine blk_r ?_
          refine seq_r ?_
          exact absurd hne (by first | (unfold opnE; rw [if_pos (by omega)]; decide) | (unfold opnE; rw [if_neg (by omega), opn_stuck hbad (by assumption) _ (by omega)]; assumption) | (exfalso; omega))
      · have hlen : acc.length = n := hacc ▸ opn_len _ _ _ _
        refine Ok.seqP [true, true, true, false, true, false, false] (by kernel_rfl) ?_
        by_cases q3 : ((n : Nat) : Int) < m
        · refine Ok.evf (by kernel_rfl) 400 [.v (.bool true)] [0, 1, 3, 8, 9, 10, 20, 21, 22] 3 (st' := (stX .any 43 ((sP_pr_openM l L base) ++ [(10, .slice 2 0 acc.length 0), (20, .int .i64 m), (21, .int .i64 ((n : Nat) : Int)), (22, .bool true)]) [.cells [.int .i64 u0, .int .i64 v0], .row 3 [encC x0] 0, .row 3 (acc.map encC) 0])) (e := .normal) (ob := [∀ e ∈ ([encC x0] : List AV), belowV 3 e = true,
        ∀ e ∈ (acc.map encC : List AV), belowV 3 e = true,
        (.bool (decide (((n : Nat) : Int) < m)) : AV) = (.bool true : AV)]) (by kernel_rfl) ⟨(by simp [belowV, idsOf, idsL, encQ, encW, encK, encC, encF]), below_ids (ids_map (fun _ => rfl) _), (bT q3), trivial⟩ ?_
          refine seq_n ?_
          refine Ok.seqP [true, true, true, false, true, false, false, true] (by kernel_rfl) ?_
          refine Ok.evf (by kernel_rfl) 400 [.d] [0, 1, 3, 8, 9, 10, 20, 21] 3 (st' := (stX .any 43 ((sP_pr_openM l L base) ++ [(10, .slice 2 0 acc.length 0), (20, .int .i64 m), (21, .int .i64 ((n : Nat) : Int))]) [.cells [.int .i64 u0, .int .i64 v0], .row 3 [encC x0] 0, .row 3 (acc.map encC) 0])) (e := .normal) (ob := [∀ e ∈ ([encC x0] : List AV), belowV 3 e = true,
        ∀ e ∈ (acc.map encC : List AV), belowV 3 e = true]) (by kernel_rfl) ⟨(by simp [belowV, idsOf, idsL, encQ, encW, encK, encC, encF]), below_ids (ids_map (fun _ => rfl) _), trivial⟩ ?_
          refine seq_n ?_
          refine Ok.seqP [true, true, true, false, true, false, false, true, true] (by kernel_rfl) ?_
          refine Ok.blockP [true, true, true, false, true, false, false, true, true, false] 1 (by kernel_rfl) ?_
          refine Ok.seqP [true, true, true, false, true, false, false, true, true, false, false] (by kernel_rfl) ?_
          refine Ok.evf (by kernel_rfl) 400 [.d, .d] [0, 1, 3, 8, 9, 10, 11, 20, 21] 3 (st' := (stX .any 43 ((sP_pr_openM l L base) ++ [(10, .slice 2 0 acc.length 0), (11, .int .i64 ((n : Nat) : Int)), (20, .int .i64 m), (21, .int .i64 ((n : Nat) : Int))]) [.cells [.int .i64 u0, .int .i64 v0], .row 3 [encC x0] 0, .row 3 (acc.map encC) 0])) (e := .normal) (ob := [∀ e ∈ ([encC x0] : List AV), belowV 3 e = true,
        ∀ e ∈ (acc.map encC : List AV), belowV 3 e = true]) (by kernel_rfl) ⟨(by simp [belowV, idsOf, idsL, encQ, encW, encK, encC, encF]), below_ids (ids_map (fun _ => rfl) _), trivial⟩ ?_
          refine seq_n ?_
          refine Ok.seqP [true, true, true, false, true, false, false, true, true, false, false, true] (by kernel_rfl) ?_
          refine Ok.evf (by kernel_rfl) 400 [.d, .d, .d, .d, .f true (.tuple [.agg [.int .i64 (bonN l L ((n : Nat) : Int) base), .int .i64 (bonD l L ((n : Nat) : Int) base)], .int .i64 (bonE l L ((n : Nat) : Int) base)]), .d, .d, .d, .d, .d, .d] [0, 1, 3, 8, 9, 10, 11, 12, 13, 20, 21] 4 (st' := (stX .any 43 ((sP_pr_openM l L base) ++ [(10, .slice 2 0 acc.length 0), (11, .int .i64 ((n : Nat) : Int)), (12, .ptr 3 0), (13, .int .i64 (bonE l L ((n : Nat) : Int) base)), (20, .int .i64 m), (21, .int .i64 ((n : Nat) : Int))]) [.cells [.int .i64 u0, .int .i64 v0], .row 3 [encC x0] 0, .row 3 (acc.map encC) 0, .cells [.int .i64 (bonN l L ((n : Nat) : Int) base), .int .i64 (bonD l L ((n : Nat) : Int) base)]])) (e := .normal) (ob := [∀ e ∈ ([encC x0] : List AV), belowV 4 e = true,
        ∀ e ∈ (acc.map encC : List AV), belowV 4 e = true,
        FnF Try.prog 33 true [.list (l.map encQ), .list (L.map encK), .int .i64 ((n : Nat) : Int), .int .i64 base] (.tuple [.agg [.int .i64 (bonN l L ((n : Nat) : Int) base), .int .i64 (bonD l L ((n : Nat) : Int) base)], .int .i64 (bonE l L ((n : Nat) : Int) base)])]) (by kernel_rfl) ⟨(by simp [belowV, idsOf, idsL, encQ, encW, encK, encC, encF]), below_ids (ids_map (fun _ => rfl) _), pr_bond (l := l) (L := L) (f := ((n : Nat) : Int)) (base := base) hl (by omega) (by omega) (by omega), trivial⟩ ?_
          refine seq_n ?_
          refine Ok.seqP [true, true, true, false, true, false, false, true, true, false, false, true, true] (by kernel_rfl) ?_
          refine Ok.seqP [true, true, true, false, true, false, false, true, true, false, false, true, true, false] (by kernel_rfl) ?_
          by_cases q4 : (bonE l L ((n : Nat) : Int) base) = 0
          · refine Ok.evf (by kernel_rfl) 400 [.d, .v (.bool false)] [0, 1, 3, 8, 9, 10, 11, 12, 13, 20, 21, 33] 4 (st' := (stX .any 43 ((sP_pr_openM l L base) ++ [(10, .slice 2 0 acc.length 0), (11, .int .i64 ((n : Nat) : Int)), (12, .ptr 3 0), (13, .int .i64 (bonE l L ((n : Nat) : Int) base)), (20, .int .i64 m), (21, .int .i64 ((n : Nat) : Int)), (33, .bool false)]) [.cells [.int .i64 u0, .int .i64 v0], .row 3 [encC x0] 0, .row 3 (acc.map encC) 0, .cells [.int .i64 (bonN l L ((n : Nat) : Int) base), .int .i64 (bonD l L ((n : Nat) : Int) base)]])) (e := .normal) (ob := [∀ e ∈ ([encC x0] : List AV), belowV 4 e = true,
        ∀ e ∈ (acc.map encC : List AV), belowV 4 e = true,
        (.bool ((bonE l L ((n : Nat) : Int) base) != 0) : AV) = (.bool false : AV)]) (by kernel_rfl) ⟨(by simp [belowV, idsOf, idsL, encQ, encW, encK, encC, encF]), below_ids (ids_map (fun _ => rfl) _), (nF q4), trivial⟩ ?_
            refine seq_n ?_
            refine Ok.evf (by kernel_rfl) 400 [.d] [0, 1, 3, 8, 9, 10, 11, 12, 20, 21] 4 (st' := (stX .any 43 ((sP_pr_openM l L base) ++ [(10, .slice 2 0 acc.length 0), (11, .int .i64 ((n : Nat) : Int)), (12, .ptr 3 0), (20, .int .i64 m), (21, .int .i64 ((n : Nat) : Int))]) [.cells [.int .i64 u0, .int .i64 v0], .row 3 [encC x0] 0, .row 3 (acc.map encC) 0, .cells [.int .i64 (bonN l L ((n : Nat) : Int) base), .int .i64 (bonD l L ((n : Nat) : Int) base)]])) (e := .normal) (ob := [∀ e ∈ ([encC x0] : List AV), belowV 4 e = true,
        ∀ e ∈ (acc.map encC : List AV), belowV 4 e = true]) (by kernel_rfl) ⟨(by simp [belowV, idsOf, idsL, encQ, encW, encK, encC, encF]), below_ids (ids_map (fun _ => rfl) _), trivial⟩ ?_
            refine seq_n ?_
            refine Ok.evf (by kernel_rfl) 400 [.d, .d, .d, .d, .d, .r ((acc ++ [(⟨((n : Nat) : Int), (bonN l L ((n : Nat) : Int) base), (bonD l L ((n : Nat) : Int) base)⟩ : Ac)]).map encC), .d] [0, 1, 3, 8, 9, 10, 20, 21] 4 (st' := (stX .any 43 ((sP_pr_openM l L base) ++ [(10, .slice 2 0 (acc.length + 1) 1), (20, .int .i64 m), (21, .int .i64 ((n : Nat) : Int))]) [.cells [.int .i64 u0, .int .i64 v0], .row 3 [encC x0] 0, .row 3 ((acc ++ [(⟨((n : Nat) : Int), (bonN l L ((n : Nat) : Int) base), (bonD l L ((n : Nat) : Int) base)⟩ : Ac)]).map encC) 1, .cells [.int .i64 (bonN l L ((n : Nat) : Int) base), .int .i64 (bonD l L ((n : Nat) : Int) base)]])) (e := .normal) (ob := [∀ e ∈ ([encC x0] : List AV), belowV 4 e = true,
        ∀ e ∈ ((acc ++ [(⟨((n : Nat) : Int), (bonN l L ((n : Nat) : Int) base), (bonD l L ((n : Nat) : Int) base)⟩ : Ac)]).map encC : List AV), belowV 4 e = true,
        ((acc.map encC).take acc.length ++ [.agg [.int .i64 ((n : Nat) : Int), .int .i64 (bonN l L ((n : Nat) : Int) base), .int .i64 (bonD l L ((n : Nat) : Int) base)]] : List AV) = (acc ++ [(⟨((n : Nat) : Int), (bonN l L ((n : Nat) : Int) base), (bonD l L ((n : Nat) : Int) base)⟩ : Ac)]).map encC,
        (2 * (acc.length + ([.agg [.int .i64 ((n : Nat) : Int), .int .i64 (bonN l L ((n : Nat) : Int) base), .int .i64 (bonD l L ((n : Nat) : Int) base)]] : List AV).length) + 1024) * 24 ≤ 2 ^ 48,
        ∀ y ∈ ([.agg [.int .i64 ((n : Nat) : Int), .int .i64 (bonN l L ((n : Nat) : Int) base), .int .i64 (bonD l L ((n : Nat) : Int) base)]] : List AV), (cellsOf y).length = 3 ∧ ∀ c ∈ cellsOf y, isCell c = true]) (by kernel_rfl) ⟨(by simp [belowV, idsOf, idsL, encQ, encW, encK, encC, encF]), below_ids (ids_map (fun _ => rfl) _), rowApp (f := encC) (x := (⟨((n : Nat) : Int), (bonN l L ((n : Nat) : Int) base), (bonD l L ((n : Nat) : Int) base)⟩ : Ac)) rfl, (by simp; omega), (by simp [cellsOf, isCell, encQ, encW, encK, encC, encF]), trivial⟩ ?_
            refine blk_n ?_
            refine seq_n ?_
            refine Ok.evf (by kernel_rfl) 400 [.v (.int .i64 (((n : Nat) : Int) + 1)), .d] [0, 1, 3, 10, 20, 21] 4 (st' := (stX .any 43 ((sP_pr_openM l L base) ++ [(10, .slice 2 0 (acc.length + 1) 1), (20, .int .i64 m), (21, .int .i64 (((n : Nat) : Int) + 1))]) [.cells [.int .i64 u0, .int .i64 v0], .row 3 [encC x0] 0, .row 3 ((acc ++ [(⟨((n : Nat) : Int), (bonN l L ((n : Nat) : Int) base), (bonD l L ((n : Nat) : Int) base)⟩ : Ac)]).map encC) 1, .cells [.int .i64 (bonN l L ((n : Nat) : Int) base), .int .i64 (bonD l L ((n : Nat) : Int) base)]])) (e := .normal) (ob := [∀ e ∈ ([encC x0] : List AV), belowV 4 e = true,
        ∀ e ∈ ((acc ++ [(⟨((n : Nat) : Int), (bonN l L ((n : Nat) : Int) base), (bonD l L ((n : Nat) : Int) base)⟩ : Ac)]).map encC : List AV), belowV 4 e = true,
        (.int .i64 (IntKind.wrap .i64 (((n : Nat) : Int) + 1)) : AV) = (.int .i64 (((n : Nat) : Int) + 1) : AV)]) (by kernel_rfl) ⟨(by simp [belowV, idsOf, idsL, encQ, encW, encK, encC, encF]), below_ids (ids_map (fun _ => rfl) _), iW (w64 (by omega) (by omega)), trivial⟩ ?_
            exact loop_g [0, 1, 3, 10, 20, 21] 3 (m.toNat - (n + 1)) (by omega) rfl (s' := (stX .any 43 ((sP_pr_openM l L base) ++ [(10, .slice 2 0 (acc.length + 1) 0), (20, .int .i64 m), (21, .int .i64 (((n : Nat) : Int) + 1))]) [.cells [.int .i64 u0, .int .i64 v0], .row 3 [encC x0] 0, .row 3 ((acc ++ [(⟨((n : Nat) : Int), (bonN l L ((n : Nat) : Int) base), (bonD l L ((n : Nat) : Int) base)⟩ : Ac)]).map encC) 0])) (ob := [∀ e ∈ ([encC x0] : List AV), idsOf e = [],
        ∀ e ∈ ((acc ++ [(⟨((n : Nat) : Int), (bonN l L ((n : Nat) : Int) base), (bonD l L ((n : Nat) : Int) base)⟩ : Ac)]).map encC : List AV), idsOf e = []]) (by kernel_rfl) ⟨(by simp [idsOf, idsL, encQ, encW, encK, encC, encF]), ids_map (fun _ => rfl) _, trivial⟩ (.inr (⟨(n + 1), (acc ++ [(⟨((n : Nat) : Int), bonN l L ((n : Nat) : Int) base, bonD l L ((n : Nat) : Int) base⟩ : Ac)]), u0, v0, x0, (by omega), (by rw [hacc, opnF]), opn_s0 hbad (by assumption), rfl, by first | rfl | (rw [List.length_append]; rfl)⟩))
          · refine Ok.evf (by kernel_rfl) 400 [.d, .v (.bool true)] [0, 1, 3, 8, 9, 10, 11, 12, 13, 20, 21, 33] 4 (st' := (stX .any 43 ((sP_pr_openM l L base) ++ [(10, .slice 2 0 acc.length 0), (11, .int .i64 ((n : Nat) : Int)), (12, .ptr 3 0), (13, .int .i64 (bonE l L ((n : Nat) : Int) base)), (20, .int .i64 m), (21, .int .i64 ((n : Nat) : Int)), (33, .bool true)]) [.cells [.int .i64 u0, .int .i64 v0], .row 3 [encC x0] 0, .row 3 (acc.map encC) 0, .cells [.int .i64 (bonN l L ((n : Nat) : Int) base), .int .i64 (bonD l L ((n : Nat) : Int) base)]])) (e := .normal) (ob := [∀ e ∈ ([encC x0] : List AV), belowV 4 e = true,
        ∀ e ∈ (acc.map encC : List AV), belowV 4 e = true,
        (.bool ((bonE l L ((n : Nat) : Int) base) != 0) : AV) = (.bool true : AV)]) (by kernel_rfl) ⟨(by simp [belowV, idsOf, idsL, encQ, encW, encK, encC, encF]), below_ids (ids_map (fun _ => rfl) _), (nT q4), trivial⟩ ?_
            refine seq_n ?_
            refine Ok.evf (by kernel_rfl) 400 [.d, .d, .d, .d] [8, 9] 4 (st' := (stX .any 43 [(8, .nilslice), (9, .int .i64 (bonE l L ((n : Nat) : Int) base))] [.cells [.int .i64 u0, .int .i64 v0], .row 3 [encC x0] 0, .row 3 (acc.map encC) 0, .cells [.int .i64 (bonN l L ((n : Nat) : Int) base), .int .i64 (bonD l L ((n : Nat) : Int) base)]])) (e := .ret) (ob := [∀ e ∈ ([encC x0] : List AV), belowV 4 e = true,
        ∀ e ∈ (acc.map encC : List AV), belowV 4 e = true]) (by kernel_rfl) ⟨(by simp [belowV, idsOf, idsL, encQ, encW, encK, encC, encF]), below_ids (ids_map (fun _ => rfl) _), trivial⟩ ?_
            refine seq_r ?_
            refine blk_r ?_
            refine seq_r ?_
            refine loopg_r ?_
            refine blk_r ?_
            refine seq_r ?_
            exact absurd hne (by first | (unfold opnE; rw [if_pos (by omega)]; decide) | (unfold opnE; rw [if_neg (by omega), opn_stuck hbad (by assumption) _ (by omega)]; assumption) | (exfalso; omega))
        · refine Ok.evf (by kernel_rfl) 400 [.v (.bool false)] [0, 1, 3, 8, 9, 10, 20, 21, 22] 3 (st' := (stX .any 43 ((sP_pr_openM l L base) ++ [(10, .slice 2 0 acc.length 0), (20, .int .i64 m), (21, .int .i64 ((n : Nat) : Int)), (22, .bool false)]) [.cells [.int .i64 u0, .int .i64 v0], .row 3 [encC x0] 0, .row 3 (acc.map encC) 0])) (e := .normal) (ob := [∀ e ∈ ([encC x0] : List AV), belowV 3 e = true,
        ∀ e ∈ (acc.map encC : List AV), belowV 3 e = true,
        (.bool (decide (((n : Nat) : Int) < m)) : AV) = (.bool false : AV)]) (by kernel_rfl) ⟨(by simp [belowV, idsOf, idsL, encQ, encW, encK, encC, encF]), below_ids (ids_map (fun _ => rfl) _), (bF q3), trivial⟩ ?_
          refine seq_n ?_
          refine Ok.evf (by kernel_rfl) 400 [.d] [8, 9, 10] 3 (st' := (stX .any 43 [(10, .slice 2 0 acc.length 0)] [.cells [.int .i64 u0, .int .i64 v0], .row 3 [encC x0] 0, .row 3 (acc.map encC) 0])) (e := (.exit 0)) (ob := [∀ e ∈ ([encC x0] : List AV), belowV 3 e = true,
        ∀ e ∈ (acc.map encC : List AV), belowV 3 e = true]) (by kernel_rfl) ⟨(by simp [belowV, idsOf, idsL, encQ, encW, encK, encC, encF]), below_ids (ids_map (fun _ => rfl) _), trivial⟩ ?_
          refine loopg_e ?_
          refine blkQ_here ?_
          refine seq_n ?_
          refine Ok.evf (by kernel_rfl) 400 [.d, .d, .d] [8, 9] 3 (st' := (stX .any 43 [(8, .slice 2 0 acc.length 0), (9, .int .i64 0)] [.cells [.int .i64 u0, .int .i64 v0], .row 3 [encC x0] 0, .row 3 (acc.map encC) 0])) (e := .ret) (ob := [∀ e ∈ ([encC x0] : List AV), belowV 3 e = true,
        ∀ e ∈ (acc.map encC : List AV), belowV 3 e = true]) (by kernel_rfl) ⟨(by simp [belowV, idsOf, idsL, encQ, encW, encK, encC, encF]), below_ids (ids_map (fun _ => rfl) _), trivial⟩ ?_
          rw [opn_acc (by omega) (by omega) hbad hacc]
          exact ⟨.inr rfl, fin_of [2] (ob := [∀ e ∈ (acc.map encC : List AV), idsOf e = []]) (by kernel_rfl) ⟨ids_map (fun _ => rfl) _, trivial⟩⟩

def mP_pr_settleM (v : Int) (ln : Int) (ld : Int) (v0 : Int) (v2 : Int) (v3 : Int) : List Blk := [.cells [.int .i64 v0, .int .i64 v, .int .i64 v2, .int .i64 v3], .cells [.int .i64 ln, .int .i64 ld], .cells [.int .i64 0, .int .i64 0]]
theorem pr_settleM {a : List Ac} {v w ln ld v0 v2 v3 : Int} (ha : ∀ x ∈ a, BdC x) (hal : a.length < 1000000) (hv : -9223372036854775808 ≤ v ∧ v ≤ 9223372036854775807) (hw : -9223372036854775808 ≤ w ∧ w ≤ 9223372036854775807) (hln : -9223372036854775808 ≤ ln ∧ ln ≤ 9223372036854775807) (hld : -9223372036854775808 ≤ ld ∧ ld ≤ 9223372036854775807) (hne : (stl a v w ln ld).2.2.2 = 0) : FnM Try.prog 41 [] [.list (a.map encC), .agg [.int .i64 v0, .int .i64 v, .int .i64 v2, .int .i64 v3], .int .i64 w, .agg [.int .i64 ln, .int .i64 ld]] (.tuple [.slice 0 0 a.length 0, .agg [.int .i64 ((stl a v w ln ld).2.1), .int .i64 ((stl a v w ln ld).2.2.1)], .int .i64 0]) [.row 3 ((stl a v w ln ld).1.map encC) 0] := by
  have ki : (idxF (isC v) a) < a.length := idx_le.2
  have kj : (idxF (isC w) a) < a.length := idx_le.2
  refine fn_walk Try.func41 (by kernel_rfl) (by kernel_rfl) (by kernel_rfl) (st := (stX (.tuple []) 92 [(0, .list (a.map encC)), (1, .agg [.int .i64 v0, .int .i64 v, .int .i64 v2, .int .i64 v3]), (2, .int .i64 w), (3, .agg [.int .i64 ln, .int .i64 ld])] [])) rfl ?_
  refine Ok.seqP [] (by kernel_rfl) ?_
  refine Ok.evf (by kernel_rfl) 400 [.d, .d, .d, .d, .d] [0, 2, 5, 7, 8, 9, 10] 3 (st' := (stX .any 92 [(0, .list (a.map encC)), (2, .int .i64 w), (5, .ptr 0 0), (7, .ptr 1 0), (8, .nilslice), (9, .ptr 2 0), (10, .int .i64 0)] (mP_pr_settleM v ln ld v0 v2 v3))) (e := .normal) (ob := []) (by kernel_rfl) trivial ?_
  refine seq_n ?_
  refine Ok.seqP [true] (by kernel_rfl) ?_
  refine Ok.seqP [true, false] (by kernel_rfl) ?_
  by_cases q1 : (rightB a) = true
  · by_cases q2 : (validI ln ld) = true
    · by_cases q3 : ln < 0
      · refine Ok.evf (by kernel_rfl) 400 [.d, .f true (.bool (rightB a)), .v (.bool false), .d, .d, .f true (.bool (validI ln ld)), .v (.bool false), .d, .d, .d, .d, .v (.bool true), .d] [0, 2, 5, 7, 8, 9, 10, 31] 3 (st' := (stX .any 92 [(0, .list (a.map encC)), (2, .int .i64 w), (5, .ptr 0 0), (7, .ptr 1 0), (8, .nilslice), (9, .ptr 2 0), (10, .int .i64 0), (31, .bool true)] (mP_pr_settleM v ln ld v0 v2 v3))) (e := .normal) (ob := [FnF Try.prog 67 true [.list (a.map encC)] (.bool (rightB a)),
        (.bool (!(rightB a)) : AV) = (.bool false : AV),
        FnF Try.prog 68 true [.agg [.int .i64 ln, .int .i64 ld]] (.bool (validI ln ld)),
        (.bool (!(validI ln ld)) : AV) = (.bool false : AV),
        (.bool (decide (ln < 0)) : AV) = (.bool true : AV)]) (by kernel_rfl) ⟨pr_right (a := a) ha (by omega), (bNotF (bBT q1)), pr_valid (n := ln) (d := ld) (by omega) (by omega), (bNotF (bBT q2)), (bT q3), trivial⟩ ?_
        refine seq_n ?_
        refine Ok.evf (by kernel_rfl) 400 [.d, .d, .d, .d, .d] [8, 9, 10] 3 (st' := (stX .any 92 [(8, .nilslice), (9, .ptr 2 0), (10, .int .i64 1)] (mP_pr_settleM v ln ld v0 v2 v3))) (e := .ret) (ob := []) (by kernel_rfl) trivial ?_
        refine seq_r ?_
        exact absurd hne (by first | (rw [stl_arg (.inl (by assumption))]; decide) | (rw [stl_arg (.inr (.inl (by assumption)))]; decide) | (rw [stl_arg (.inr (.inr (by omega)))]; decide) | (rw [stl_none (by assumption) (by assumption) (by omega) (by omega)]; decide) | (rw [stl_e1 (by assumption) (by assumption) (by omega) (by omega) (by assumption)]; assumption) | (rw [stl_e2 (by assumption) (by assumption) (by omega) (by omega) (by assumption) (by assumption)]; assumption))
      · refine Ok.evf (by kernel_rfl) 400 [.d, .f true (.bool (rightB a)), .v (.bool false), .d, .d, .f true (.bool (validI ln ld)), .v (.bool false), .d, .d, .d, .d, .v (.bool false), .d] [0, 2, 5, 7, 8, 9, 10, 31] 3 (st' := (stX .any 92 [(0, .list (a.map encC)), (2, .int .i64 w), (5, .ptr 0 0), (7, .ptr 1 0), (8, .nilslice), (9, .ptr 2 0), (10, .int .i64 0), (31, .bool false)] (mP_pr_settleM v ln ld v0 v2 v3))) (e := .normal) (ob := [FnF Try.prog 67 true [.list (a.map encC)] (.bool (rightB a)),
        (.bool (!(rightB a)) : AV) = (.bool false : AV),
        FnF Try.prog 68 true [.agg [.int .i64 ln, .int .i64 ld]] (.bool (validI ln ld)),
        (.bool (!(validI ln ld)) : AV) = (.bool false : AV),
        (.bool (decide (ln < 0)) : AV) = (.bool false : AV)]) (by kernel_rfl) ⟨pr_right (a := a) ha (by omega), (bNotF (bBT q1)), pr_valid (n := ln) (d := ld) (by omega) (by omega), (bNotF (bBT q2)), (bF q3), trivial⟩ ?_
        refine seq_n ?_
        refine Ok.evf (by kernel_rfl) 400 [.d] [0, 2, 5, 7, 8, 9, 10] 3 (st' := (stX .any 92 [(0, .list (a.map encC)), (2, .int .i64 w), (5, .ptr 0 0), (7, .ptr 1 0), (8, .nilslice), (9, .ptr 2 0), (10, .int .i64 0)] (mP_pr_settleM v ln ld v0 v2 v3))) (e := .normal) (ob := []) (by kernel_rfl) trivial ?_
        refine seq_n ?_
        refine Ok.seqP [true, true] (by kernel_rfl) ?_
        refine Ok.evf (by kernel_rfl) 400 [.d, .d, .d, .f true (.int .i64 (idxF (isC v) a)), .d, .d, .f true (.int .i64 (idxF (isC w) a)), .d, .d] [0, 7, 8, 9, 10, 11, 12] 3 (st' := (stX .any 92 [(0, .list (a.map encC)), (7, .ptr 1 0), (8, .nilslice), (9, .ptr 2 0), (10, .int .i64 0), (11, .int .i64 (idxF (isC v) a)), (12, .int .i64 (idxF (isC w) a))] (mP_pr_settleM v ln ld v0 v2 v3))) (e := .normal) (ob := [FnF Try.prog 69 true [.list (a.map encC), .int .i64 v] (.int .i64 (idxF (isC v) a)),
        FnF Try.prog 69 true [.list (a.map encC), .int .i64 w] (.int .i64 (idxF (isC w) a))]) (by kernel_rfl) ⟨pr_at (a := a) (f := v) (by omega), pr_at (a := a) (f := w) (by omega), trivial⟩ ?_
        refine seq_n ?_
        refine Ok.seqP [true, true, true] (by kernel_rfl) ?_
        refine Ok.seqP [true, true, true, false] (by kernel_rfl) ?_
        by_cases q4 : (idxF (isC v) a) < 0
        · refine Ok.evf (by kernel_rfl) 400 [.d, .v (.bool true), .d, .d, .d, .d] [0, 7, 8, 9, 10, 11, 12, 45] 3 (st' := (stX .any 92 [(0, .list (a.map encC)), (7, .ptr 1 0), (8, .nilslice), (9, .ptr 2 0), (10, .int .i64 0), (11, .int .i64 (idxF (isC v) a)), (12, .int .i64 (idxF (isC w) a)), (45, .bool true)] (mP_pr_settleM v ln ld v0 v2 v3))) (e := .normal) (ob := [(.bool (decide ((idxF (isC v) a) < 0)) : AV) = (.bool true : AV)]) (by kernel_rfl) ⟨(bT q4), trivial⟩ ?_
          refine seq_n ?_
          refine Ok.evf (by kernel_rfl) 400 [.d, .d, .d, .d, .d] [8, 9, 10] 3 (st' := (stX .any 92 [(8, .nilslice), (9, .ptr 2 0), (10, .int .i64 4)] (mP_pr_settleM v ln ld v0 v2 v3))) (e := .ret) (ob := []) (by kernel_rfl) trivial ?_
          refine seq_r ?_
          exact absurd hne (by first | (rw [stl_arg (.inl (by assumption))]; decide) | (rw [stl_arg (.inr (.inl (by assumption)))]; decide) | (rw [stl_arg (.inr (.inr (by omega)))]; decide) | (rw [stl_none (by assumption) (by assumption) (by omega) (by omega)]; decide) | (rw [stl_e1 (by assumption) (by assumption) (by omega) (by omega) (by assumption)]; assumption) | (rw [stl_e2 (by assumption) (by assumption) (by omega) (by omega) (by assumption) (by assumption)]; assumption))
        · by_cases q5 : (idxF (isC w) a) < 0
          · refine Ok.evf (by kernel_rfl) 400 [.d, .v (.bool false), .d, .d, .v (.bool true), .d] [0, 7, 8, 9, 10, 11, 12, 45] 3 (st' := (stX .any 92 [(0, .list (a.map encC)), (7, .ptr 1 0), (8, .nilslice), (9, .ptr 2 0), (10, .int .i64 0), (11, .int .i64 (idxF (isC v) a)), (12, .int .i64 (idxF (isC w) a)), (45, .bool true)] (mP_pr_settleM v ln ld v0 v2 v3))) (e := .normal) (ob := [(.bool (decide ((idxF (isC v) a) < 0)) : AV) = (.bool false : AV),
        (.bool (decide ((idxF (isC w) a) < 0)) : AV) = (.bool true : AV)]) (by kernel_rfl) ⟨(bF q4), (bT q5), trivial⟩ ?_
            refine seq_n ?_
            refine Ok.evf (by kernel_rfl) 400 [.d, .d, .d, .d, .d] [8, 9, 10] 3 (st' := (stX .any 92 [(8, .nilslice), (9, .ptr 2 0), (10, .int .i64 4)] (mP_pr_settleM v ln ld v0 v2 v3))) (e := .ret) (ob := []) (by kernel_rfl) trivial ?_
            refine seq_r ?_
            exact absurd hne (by first | (rw [stl_arg (.inl (by assumption))]; decide) | (rw [stl_arg (.inr (.inl (by assumption)))]; decide) | (rw [stl_arg (.inr (.inr (by omega)))]; decide) | (rw [stl_none (by assumption) (by assumption) (by omega) (by omega)]; decide) | (rw [stl_e1 (by assumption) (by assumption) (by omega) (by omega) (by assumption)]; assumption) | (rw [stl_e2 (by assumption) (by assumption) (by omega) (by omega) (by assumption) (by assumption)]; assumption))
          · refine Ok.evf (by kernel_rfl) 400 [.d, .v (.bool false), .d, .d, .v (.bool false), .d] [0, 7, 8, 9, 10, 11, 12, 45] 3 (st' := (stX .any 92 [(0, .list (a.map encC)), (7, .ptr 1 0), (8, .nilslice), (9, .ptr 2 0), (10, .int .i64 0), (11, .int .i64 (idxF (isC v) a)), (12, .int .i64 (idxF (isC w) a)), (45, .bool false)] (mP_pr_settleM v ln ld v0 v2 v3))) (e := .normal) (ob := [(.bool (decide ((idxF (isC v) a) < 0)) : AV) = (.bool false : AV),
        (.bool (decide ((idxF (isC w) a) < 0)) : AV) = (.bool false : AV)]) (by kernel_rfl) ⟨(bF q4), (bF q5), trivial⟩ ?_
            refine seq_n ?_
            refine Ok.evf (by kernel_rfl) 400 [.d] [0, 7, 8, 9, 10, 11, 12] 3 (st' := (stX .any 92 [(0, .list (a.map encC)), (7, .ptr 1 0), (8, .nilslice), (9, .ptr 2 0), (10, .int .i64 0), (11, .int .i64 (idxF (isC v) a)), (12, .int .i64 (idxF (isC w) a))] (mP_pr_settleM v ln ld v0 v2 v3))) (e := .normal) (ob := []) (by kernel_rfl) trivial ?_
            refine seq_n ?_
            refine Ok.seqP [true, true, true, true] (by kernel_rfl) ?_
            refine Ok.evf (by kernel_rfl) 400 [.d, .c (.slice 0 0 a.length 0) [.row 3 (a.map encC) 0], .d, .d, .e (encC (sX a v)), .d, .d, .d, .f true (.agg [.int .i64 (sP a v ln ld), .int .i64 (sQ a v ln ld)]), .d, .d, .d] [8, 9, 10, 11, 12, 13, 14] 5 (st' := (stX .any 92 [(8, .nilslice), (9, .ptr 2 0), (10, .int .i64 0), (11, .int .i64 (idxF (isC v) a)), (12, .int .i64 (idxF (isC w) a)), (13, .slice 3 0 a.length 0), (14, .ptr 4 0)] ((mP_pr_settleM v ln ld v0 v2 v3) ++ [.row 3 (a.map encC) 0, .cells [.int .i64 (sP a v ln ld), .int .i64 (sQ a v ln ld)]]))) (e := .normal) (ob := [∀ e ∈ (a.map encC : List AV), belowV 5 e = true,
        FnM Try.prog 70 [] [.list (a.map encC)] (.slice 0 0 a.length 0) [.row 3 (a.map encC) 0],
        ∀ e ∈ (a.map encC : List AV), idsOf e = [],
        0 ≤ idxF (isC v) a,
        (a.map encC)[(idxF (isC v) a).toNat]? = some (encC (sX a v)),
        FnF Try.prog 22 true [.agg [.int .i64 (sX a v).n, .int .i64 (sX a v).d], .agg [.int .i64 ln, .int .i64 ld]] (.agg [.int .i64 (sP a v ln ld), .int .i64 (sQ a v ln ld)])]) (by kernel_rfl) ⟨below_ids (ids_map (fun _ => rfl) _), (pr_clone (ne_of_idx (by omega)) (by omega)), ids_map (fun _ => rfl) _, (by omega), elemN (by omega) (by omega), pr_min (a := (sX a v).n) (b := (sX a v).d) (c := ln) (d := ld) (okC_at (by assumption) (by omega)).1 (valid_frc (by assumption)), trivial⟩ ?_
            refine seq_n ?_
            refine Ok.seqP [true, true, true, true, true] (by kernel_rfl) ?_
            refine Ok.seqP [true, true, true, true, true, false] (by kernel_rfl) ?_
            refine Ok.evf (by kernel_rfl) 400 [.d, .d, .d, .d, .d, .d, .d] [8, 9, 10, 13, 14, 60, 61, 62] 6 (st' := (stX .any 92 [(8, .nilslice), (9, .ptr 2 0), (10, .int .i64 0), (13, .slice 3 0 a.length 0), (14, .ptr 4 0), (60, .slice 5 0 2 0), (61, .int .i64 2), (62, .int .i64 0)] ((mP_pr_settleM v ln ld v0 v2 v3) ++ [.row 3 (a.map encC) 0, .cells [.int .i64 (sP a v ln ld), .int .i64 (sQ a v ln ld)], .row 2 [.agg [.int .i64 (idxF (isC v) a), .func (.func 71) [] []], .agg [.int .i64 (idxF (isC w) a), .func (.func 16) [] []]] 0]))) (e := .normal) (ob := [∀ e ∈ (a.map encC : List AV), belowV 6 e = true,
        ∀ e ∈ ([.agg [.int .i64 (idxF (isC v) a), .func (.func 71) [] []], .agg [.int .i64 (idxF (isC w) a), .func (.func 16) [] []]] : List AV), belowV 6 e = true]) (by kernel_rfl) ⟨below_ids (ids_map (fun _ => rfl) _), (by simp [belowV, idsOf, idsL, encQ, encW, encK, encC, encF]), trivial⟩ ?_
            refine seq_n ?_
            refine Ok.blockP [true, true, true, true, true, false, true] 0 (by kernel_rfl) ?_
            by_cases q6 : (addE (sX a v).n (sX a v).d (-sP a v ln ld) (sQ a v ln ld)) = 0
            · by_cases q7 : (addE (sY a v w ln ld).n (sY a v w ln ld).d (sP a v ln ld) (sQ a v ln ld)) = 0
              · refine Ok.evf (by kernel_rfl) 400 [.d, .d, .d, .d, .d, .d, .d, .d, .d, .d, .d, .d, .d, .e (encC (sX a v)), .d, .f true (.tuple [.agg [.int .i64 (addN (sX a v).n (sX a v).d (-sP a v ln ld) (sQ a v ln ld)), .int .i64 (addD (sX a v).n (sX a v).d (-sP a v ln ld) (sQ a v ln ld))], .int .i64 (addE (sX a v).n (sX a v).d (-sP a v ln ld) (sQ a v ln ld))]), .d, .d, .d, .d, .d, .d, .d, .v (.bool false), .d, .d, .d, .d, .d, .d, .d, .er (encC (sX a v)) ((sB a v ln ld).map encC), .v (.int .i64 1), .d, .d, .d, .d, .d, .d, .d, .d, .d, .d, .d, .d, .d, .d, .e (encC (sY a v w ln ld)), .d, .f true (.tuple [.agg [.int .i64 (addN (sY a v w ln ld).n (sY a v w ln ld).d (sP a v ln ld) (sQ a v ln ld)), .int .i64 (addD (sY a v w ln ld).n (sY a v w ln ld).d (sP a v ln ld) (sQ a v ln ld))], .int .i64 (addE (sY a v w ln ld).n (sY a v w ln ld).d (sP a v ln ld) (sQ a v ln ld))]), .d, .d, .d, .d, .d, .d, .d, .v (.bool false), .d, .d, .d, .d, .d, .d, .d, .er (encC (sY a v w ln ld)) ((setC (sB a v ln ld) (idxF (isC w) a).toNat (addN (sY a v w ln ld).n (sY a v w ln ld).d (sP a v ln ld) (sQ a v ln ld)) (addD (sY a v w ln ld).n (sY a v w ln ld).d (sP a v ln ld) (sQ a v ln ld))).map encC), .v (.int .i64 2), .d, .d, .d] [8, 9, 10, 13, 14] 6 (st' := (stX .any 92 [(8, .nilslice), (9, .ptr 2 0), (10, .int .i64 0), (13, .slice 3 0 a.length 0), (14, .ptr 4 0)] ((mP_pr_settleM v ln ld v0 v2 v3) ++ [.row 3 ((setC (sB a v ln ld) (idxF (isC w) a).toNat (addN (sY a v w ln ld).n (sY a v w ln ld).d (sP a v ln ld) (sQ a v ln ld)) (addD (sY a v w ln ld).n (sY a v w ln ld).d (sP a v ln ld) (sQ a v ln ld))).map encC) 0, .cells [.int .i64 (sP a v ln ld), .int .i64 (sQ a v ln ld)], .row 2 [.agg [.int .i64 (idxF (isC v) a), .func (.func 71) [] []], .agg [.int .i64 (idxF (isC w) a), .func (.func 16) [] []]] 0]))) (e := (.exit 0)) (ob := [∀ e ∈ ((setC (sB a v ln ld) (idxF (isC w) a).toNat (addN (sY a v w ln ld).n (sY a v w ln ld).d (sP a v ln ld) (sQ a v ln ld)) (addD (sY a v w ln ld).n (sY a v w ln ld).d (sP a v ln ld) (sQ a v ln ld))).map encC : List AV), belowV 6 e = true,
        ∀ e ∈ ([.agg [.int .i64 (idxF (isC v) a), .func (.func 71) [] []], .agg [.int .i64 (idxF (isC w) a), .func (.func 16) [] []]] : List AV), belowV 6 e = true,
        0 ≤ (0 : Int) ∧ (0 : Int) < (2 : Nat),
        0 ≤ idxF (isC v) a ∧ idxF (isC v) a < (a.length : Nat),
        (a.map encC)[0 + (idxF (isC v) a).toNat]? = some (encC (sX a v)),
        FnF Try.prog 71 true [.agg [.int .i64 (sX a v).n, .int .i64 (sX a v).d], .agg [.int .i64 (sP a v ln ld), .int .i64 (sQ a v ln ld)]] (.tuple [.agg [.int .i64 (addN (sX a v).n (sX a v).d (-sP a v ln ld) (sQ a v ln ld)), .int .i64 (addD (sX a v).n (sX a v).d (-sP a v ln ld) (sQ a v ln ld))], .int .i64 (addE (sX a v).n (sX a v).d (-sP a v ln ld) (sQ a v ln ld))]),
        (.bool ((addE (sX a v).n (sX a v).d (-sP a v ln ld) (sQ a v ln ld)) != 0) : AV) = (.bool false : AV),
        0 ≤ idxF (isC v) a ∧ idxF (isC v) a < (a.length : Nat),
        ((a.map encC).set (0 + (idxF (isC v) a).toNat) (.agg [.int .i64 (sX a v).fi, .int .i64 (addN (sX a v).n (sX a v).d (-sP a v ln ld) (sQ a v ln ld)), .int .i64 (addD (sX a v).n (sX a v).d (-sP a v ln ld) (sQ a v ln ld))] : AV) : List AV) = (sB a v ln ld).map encC,
        (a.map encC)[0 + (idxF (isC v) a).toNat]? = some (encC (sX a v)),
        (.int .i64 (IntKind.wrap .i64 (0 + 1)) : AV) = (.int .i64 1 : AV),
        0 ≤ (1 : Int) ∧ (1 : Int) < (2 : Nat),
        0 ≤ idxF (isC w) a ∧ idxF (isC w) a < (a.length : Nat),
        ((sB a v ln ld).map encC)[0 + (idxF (isC w) a).toNat]? = some (encC (sY a v w ln ld)),
        FnF Try.prog 16 true [.agg [.int .i64 (sY a v w ln ld).n, .int .i64 (sY a v w ln ld).d], .agg [.int .i64 (sP a v ln ld), .int .i64 (sQ a v ln ld)]] (.tuple [.agg [.int .i64 (addN (sY a v w ln ld).n (sY a v w ln ld).d (sP a v ln ld) (sQ a v ln ld)), .int .i64 (addD (sY a v w ln ld).n (sY a v w ln ld).d (sP a v ln ld) (sQ a v ln ld))], .int .i64 (addE (sY a v w ln ld).n (sY a v w ln ld).d (sP a v ln ld) (sQ a v ln ld))]),
        (.bool ((addE (sY a v w ln ld).n (sY a v w ln ld).d (sP a v ln ld) (sQ a v ln ld)) != 0) : AV) = (.bool false : AV),
        0 ≤ idxF (isC w) a ∧ idxF (isC w) a < (a.length : Nat),
        (((sB a v ln ld).map encC).set (0 + (idxF (isC w) a).toNat) (.agg [.int .i64 (sY a v w ln ld).fi, .int .i64 (addN (sY a v w ln ld).n (sY a v w ln ld).d (sP a v ln ld) (sQ a v ln ld)), .int .i64 (addD (sY a v w ln ld).n (sY a v w ln ld).d (sP a v ln ld) (sQ a v ln ld))] : AV) : List AV) = (setC (sB a v ln ld) (idxF (isC w) a).toNat (addN (sY a v w ln ld).n (sY a v w ln ld).d (sP a v ln ld) (sQ a v ln ld)) (addD (sY a v w ln ld).n (sY a v w ln ld).d (sP a v ln ld) (sQ a v ln ld))).map encC,
        ((sB a v ln ld).map encC)[0 + (idxF (isC w) a).toNat]? = some (encC (sY a v w ln ld)),
        (.int .i64 (IntKind.wrap .i64 (1 + 1)) : AV) = (.int .i64 2 : AV)]) (by kernel_rfl) ⟨below_ids (ids_map (fun _ => rfl) _), (by simp [belowV, idsOf, idsL, encQ, encW, encK, encC, encF]), (by decide), (by omega), elemN (by omega) (by omega), pr_sub (a := (sX a v).n) (b := (sX a v).d) (c := (sP a v ln ld)) (d := (sQ a v ln ld)) (okC_at (by assumption) (by omega)).1 (frc_min ((okC_at (by assumption) (by omega)).1) (valid_frc (by assumption))), (nF q6), (by omega), set_enc (by omega), elemN (by omega) (by omega), rfl, (by decide), (by omega), elemN (by omega) (by simp only [setC_len]; omega), rt_add (a := (sY a v w ln ld).n) (b := (sY a v w ln ld).d) (c := (sP a v ln ld)) (d := (sQ a v ln ld)) (frc_set (by assumption) (by omega) (by omega) (frc_add ((okC_at (by assumption) (by omega)).1) (frc_neg (frc_min ((okC_at (by assumption) (by omega)).1) (valid_frc (by assumption)))) (by assumption))) (frc_min ((okC_at (by assumption) (by omega)).1) (valid_frc (by assumption))), (nF q7), (by omega), set_enc (by omega), elemN (by omega) (by simp only [setC_len]; omega), rfl, trivial⟩ ?_
                refine blkQ_here ?_
                refine seq_n ?_
                refine Ok.evf (by kernel_rfl) 400 [.d, .d, .d, .d, .d] [8, 9, 10] 6 (st' := (stX .any 92 [(8, .slice 3 0 a.length 0), (9, .ptr 2 0), (10, .int .i64 0)] [.cells [.int .i64 v0, .int .i64 v, .int .i64 v2, .int .i64 v3], .cells [.int .i64 ln, .int .i64 ld], .cells [.int .i64 (sP a v ln ld), .int .i64 (sQ a v ln ld)], .row 3 ((setC (sB a v ln ld) (idxF (isC w) a).toNat (addN (sY a v w ln ld).n (sY a v w ln ld).d (sP a v ln ld) (sQ a v ln ld)) (addD (sY a v w ln ld).n (sY a v w ln ld).d (sP a v ln ld) (sQ a v ln ld))).map encC) 0, .cells [.int .i64 (sP a v ln ld), .int .i64 (sQ a v ln ld)], .row 2 [.agg [.int .i64 (idxF (isC v) a), .func (.func 71) [] []], .agg [.int .i64 (idxF (isC w) a), .func (.func 16) [] []]] 0])) (e := .ret) (ob := [∀ e ∈ ((setC (sB a v ln ld) (idxF (isC w) a).toNat (addN (sY a v w ln ld).n (sY a v w ln ld).d (sP a v ln ld) (sQ a v ln ld)) (addD (sY a v w ln ld).n (sY a v w ln ld).d (sP a v ln ld) (sQ a v ln ld))).map encC : List AV), belowV 6 e = true,
        ∀ e ∈ ([.agg [.int .i64 (idxF (isC v) a), .func (.func 71) [] []], .agg [.int .i64 (idxF (isC w) a), .func (.func 16) [] []]] : List AV), belowV 6 e = true]) (by kernel_rfl) ⟨below_ids (ids_map (fun _ => rfl) _), (by simp [belowV, idsOf, idsL, encQ, encW, encK, encC, encF]), trivial⟩ ?_
                rw [stl_ok (by assumption) (by assumption) (by omega) (by omega) (by assumption) (by assumption)]
                exact ⟨.inr rfl, fin_of [3] (ob := [∀ e ∈ ((setC (sB a v ln ld) (idxF (isC w) a).toNat (addN (sY a v w ln ld).n (sY a v w ln ld).d (sP a v ln ld) (sQ a v ln ld)) (addD (sY a v w ln ld).n (sY a v w ln ld).d (sP a v ln ld) (sQ a v ln ld))).map encC : List AV), idsOf e = []]) (by kernel_rfl) ⟨ids_map (fun _ => rfl) _, trivial⟩⟩
              · refine Ok.evf (by kernel_rfl) 400 [.d, .d, .d, .d, .d, .d, .d, .d, .d, .d, .d, .d, .d, .e (encC (sX a v)), .d, .f true (.tuple [.agg [.int .i64 (addN (sX a v).n (sX a v).d (-sP a v ln ld) (sQ a v ln ld)), .int .i64 (addD (sX a v).n (sX a v).d (-sP a v ln ld) (sQ a v ln ld))], .int .i64 (addE (sX a v).n (sX a v).d (-sP a v ln ld) (sQ a v ln ld))]), .d, .d, .d, .d, .d, .d, .d, .v (.bool false), .d, .d, .d, .d, .d, .d, .d, .er (encC (sX a v)) ((sB a v ln ld).map encC), .v (.int .i64 1), .d, .d, .d, .d, .d, .d, .d, .d, .d, .d, .d, .d, .d, .d, .e (encC (sY a v w ln ld)), .d, .f true (.tuple [.agg [.int .i64 (addN (sY a v w ln ld).n (sY a v w ln ld).d (sP a v ln ld) (sQ a v ln ld)), .int .i64 (addD (sY a v w ln ld).n (sY a v w ln ld).d (sP a v ln ld) (sQ a v ln ld))], .int .i64 (addE (sY a v w ln ld).n (sY a v w ln ld).d (sP a v ln ld) (sQ a v ln ld))]), .d, .d, .d, .d, .d, .d, .d, .v (.bool true), .d, .d, .d, .d, .d, .d] [8, 9, 10] 6 (st' := (stX .any 92 [(8, .nilslice), (9, .ptr 2 0), (10, .int .i64 (addE (sY a v w ln ld).n (sY a v w ln ld).d (sP a v ln ld) (sQ a v ln ld)))] ((mP_pr_settleM v ln ld v0 v2 v3) ++ [.row 3 ((sB a v ln ld).map encC) 0, .cells [.int .i64 (sP a v ln ld), .int .i64 (sQ a v ln ld)], .row 2 [.agg [.int .i64 (idxF (isC v) a), .func (.func 71) [] []], .agg [.int .i64 (idxF (isC w) a), .func (.func 16) [] []]] 0]))) (e := .ret) (ob := [∀ e ∈ ((sB a v ln ld).map encC : List AV), belowV 6 e = true,
        ∀ e ∈ ([.agg [.int .i64 (idxF (isC v) a), .func (.func 71) [] []], .agg [.int .i64 (idxF (isC w) a), .func (.func 16) [] []]] : List AV), belowV 6 e = true,
        0 ≤ (0 : Int) ∧ (0 : Int) < (2 : Nat),
        0 ≤ idxF (isC v) a ∧ idxF (isC v) a < (a.length : Nat),
        (a.map encC)[0 + (idxF (isC v) a).toNat]? = some (encC (sX a v)),
        FnF Try.prog 71 true [.agg [.int .i64 (sX a v).n, .int .i64 (sX a v).d], .agg [.int .i64 (sP a v ln ld), .int .i64 (sQ a v ln ld)]] (.tuple [.agg [.int .i64 (addN (sX a v).n (sX a v).d (-sP a v ln ld) (sQ a v ln ld)), .int .i64 (addD (sX a v).n (sX a v).d (-sP a v ln ld) (sQ a v ln ld))], .int .i64 (addE (sX a v).n (sX a v).d (-sP a v ln ld) (sQ a v ln ld))]),
        (.bool ((addE (sX a v).n (sX a v).d (-sP a v ln ld) (sQ a v ln ld)) != 0) : AV) = (.bool false : AV),
        0 ≤ idxF (isC v) a ∧ idxF (isC v) a < (a.length : Nat),
        ((a.map encC).set (0 + (idxF (isC v) a).toNat) (.agg [.int .i64 (sX a v).fi, .int .i64 (addN (sX a v).n (sX a v).d (-sP a v ln ld) (sQ a v ln ld)), .int .i64 (addD (sX a v).n (sX a v).d (-sP a v ln ld) (sQ a v ln ld))] : AV) : List AV) = (sB a v ln ld).map encC,
        (a.map encC)[0 + (idxF (isC v) a).toNat]? = some (encC (sX a v)),
        (.int .i64 (IntKind.wrap .i64 (0 + 1)) : AV) = (.int .i64 1 : AV),
        0 ≤ (1 : Int) ∧ (1 : Int) < (2 : Nat),
        0 ≤ idxF (isC w) a ∧ idxF (isC w) a < (a.length : Nat),
        ((sB a v ln ld).map encC)[0 + (idxF (isC w) a).toNat]? = some (encC (sY a v w ln ld)),
        FnF Try.prog 16 true [.agg [.int .i64 (sY a v w ln ld).n, .int .i64 (sY a v w ln ld).d], .agg [.int .i64 (sP a v ln ld), .int .i64 (sQ a v ln ld)]] (.tuple [.agg [.int .i64 (addN (sY a v w ln ld).n (sY a v w ln ld).d (sP a v ln ld) (sQ a v ln ld)), .int .i64 (addD (sY a v w ln ld).n (sY a v w ln ld).d (sP a v ln ld) (sQ a v ln ld))], .int .i64 (addE (sY a v w ln ld).n (sY a v w ln ld).d (sP a v ln ld) (sQ a v ln ld))]),
        (.bool ((addE (sY a v w ln ld).n (sY a v w ln ld).d (sP a v ln ld) (sQ a v ln ld)) != 0) : AV) = (.bool true : AV)]) (by kernel_rfl) ⟨below_ids (ids_map (fun _ => rfl) _), (by simp [belowV, idsOf, idsL, encQ, encW, encK, encC, encF]), (by decide), (by omega), elemN (by omega) (by omega), pr_sub (a := (sX a v).n) (b := (sX a v).d) (c := (sP a v ln ld)) (d := (sQ a v ln ld)) (okC_at (by assumption) (by omega)).1 (frc_min ((okC_at (by assumption) (by omega)).1) (valid_frc (by assumption))), (nF q6), (by omega), set_enc (by omega), elemN (by omega) (by omega), rfl, (by decide), (by omega), elemN (by omega) (by simp only [setC_len]; omega), rt_add (a := (sY a v w ln ld).n) (b := (sY a v w ln ld).d) (c := (sP a v ln ld)) (d := (sQ a v ln ld)) (frc_set (by assumption) (by omega) (by omega) (frc_add ((okC_at (by assumption) (by omega)).1) (frc_neg (frc_min ((okC_at (by assumption) (by omega)).1) (valid_frc (by assumption)))) (by assumption))) (frc_min ((okC_at (by assumption) (by omega)).1) (valid_frc (by assumption))), (nT q7), trivial⟩ ?_
                refine blk_r ?_
                refine seq_r ?_
                exact absurd hne (by first | (rw [stl_arg (.inl (by assumption))]; decide) | (rw [stl_arg (.inr (.inl (by assumption)))]; decide) | (rw [stl_arg (.inr (.inr (by omega)))]; decide) | (rw [stl_none (by assumption) (by assumption) (by omega) (by omega)]; decide) | (rw [stl_e1 (by assumption) (by assumption) (by omega) (by omega) (by assumption)]; assumption) | (rw [stl_e2 (by assumption) (by assumption) (by omega) (by omega) (by assumption) (by assumption)]; assumption))
            · refine Ok.evf (by kernel_rfl) 400 [.d, .d, .d, .d, .d, .d, .d, .d, .d, .d, .d, .d, .d, .e (encC (sX a v)), .d, .f true (.tuple [.agg [.int .i64 (addN (sX a v).n (sX a v).d (-sP a v ln ld) (sQ a v ln ld)), .int .i64 (addD (sX a v).n (sX a v).d (-sP a v ln ld) (sQ a v ln ld))], .int .i64 (addE (sX a v).n (sX a v).d (-sP a v ln ld) (sQ a v ln ld))]), .d, .d, .d, .d, .d, .d, .d, .v (.bool true), .d, .d, .d, .d, .d, .d] [8, 9, 10] 6 (st' := (stX .any 92 [(8, .nilslice), (9, .ptr 2 0), (10, .int .i64 (addE (sX a v).n (sX a v).d (-sP a v ln ld) (sQ a v ln ld)))] ((mP_pr_settleM v ln ld v0 v2 v3) ++ [.row 3 (a.map encC) 0, .cells [.int .i64 (sP a v ln ld), .int .i64 (sQ a v ln ld)], .row 2 [.agg [.int .i64 (idxF (isC v) a), .func (.func 71) [] []], .agg [.int .i64 (idxF (isC w) a), .func (.func 16) [] []]] 0]))) (e := .ret) (ob := [∀ e ∈ (a.map encC : List AV), belowV 6 e = true,
        ∀ e ∈ ([.agg [.int .i64 (idxF (isC v) a), .func (.func 71) [] []], .agg [.int .i64 (idxF (isC w) a), .func (.func 16) [] []]] : List AV), belowV 6 e = true,
        0 ≤ (0 : Int) ∧ (0 : Int) < (2 : Nat),
        0 ≤ idxF (isC v) a ∧ idxF (isC v) a < (a.length : Nat),
        (a.map encC)[0 + (idxF (isC v) a).toNat]? = some (encC (sX a v)),
        FnF Try.prog 71 true [.agg [.int .i64 (sX a v).n, .int .i64 (sX a v).d], .agg [.int .i64 (sP a v ln ld), .int .i64 (sQ a v ln ld)]] (.tuple [.agg [.int .i64 (addN (sX a v).n (sX a v).d (-sP a v ln ld) (sQ a v ln ld)), .int .i64 (addD (sX a v).n (sX a v).d (-sP a v ln ld) (sQ a v ln ld))], .int .i64 (addE (sX a v).n (sX a v).d (-sP a v ln ld) (sQ a v ln ld))]),
        (.bool ((addE (sX a v).n (sX a v).d (-sP a v ln ld) (sQ a v ln ld)) != 0) : AV) = (.bool true : AV)]) (by kernel_rfl) ⟨below_ids (ids_map (fun _ => rfl) _), (by simp [belowV, idsOf, idsL, encQ, encW, encK, encC, encF]), (by decide), (by omega), elemN (by omega) (by omega), pr_sub (a := (sX a v).n) (b := (sX a v).d) (c := (sP a v ln ld)) (d := (sQ a v ln ld)) (okC_at (by assumption) (by omega)).1 (frc_min ((okC_at (by assumption) (by omega)).1) (valid_frc (by assumption))), (nT q6), trivial⟩ ?_
              refine blk_r ?_
              refine seq_r ?_
              exact absurd hne (by first | (rw [stl_arg (.inl (by assumption))]; decide) | (rw [stl_arg (.inr (.inl (by assumption)))]; decide) | (rw [stl_arg (.inr (.inr (by omega)))]; decide) | (rw [stl_none (by assumption) (by assumption) (by omega) (by omega)]; decide) | (rw [stl_e1 (by assumption) (by assumption) (by omega) (by omega) (by assumption)]; assumption) | (rw [stl_e2 (by assumption) (by assumption) (by omega) (by omega) (by assumption) (by assumption)]; assumption))
    · refine Ok.evf (by kernel_rfl) 400 [.d, .f true (.bool (rightB a)), .v (.bool false), .d, .d, .f true (.bool (validI ln ld)), .v (.bool true), .d, .d, .d, .d, .d, .d] [0, 2, 5, 7, 8, 9, 10, 31] 3 (st' := (stX .any 92 [(0, .list (a.map encC)), (2, .int .i64 w), (5, .ptr 0 0), (7, .ptr 1 0), (8, .nilslice), (9, .ptr 2 0), (10, .int .i64 0), (31, .bool true)] (mP_pr_settleM v ln ld v0 v2 v3))) (e := .normal) (ob := [FnF Try.prog 67 true [.list (a.map encC)] (.bool (rightB a)),
        (.bool (!(rightB a)) : AV) = (.bool false : AV),
        FnF Try.prog 68 true [.agg [.int .i64 ln, .int .i64 ld]] (.bool (validI ln ld)),
        (.bool (!(validI ln ld)) : AV) = (.bool true : AV)]) (by kernel_rfl) ⟨pr_right (a := a) ha (by omega), (bNotF (bBT q1)), pr_valid (n := ln) (d := ld) (by omega) (by omega), (bNotT (bBF q2)), trivial⟩ ?_
      refine seq_n ?_
      refine Ok.evf (by kernel_rfl) 400 [.d, .d, .d, .d, .d] [8, 9, 10] 3 (st' := (stX .any 92 [(8, .nilslice), (9, .ptr 2 0), (10, .int .i64 1)] (mP_pr_settleM v ln ld v0 v2 v3))) (e := .ret) (ob := []) (by kernel_rfl) trivial ?_
      refine seq_r ?_
      exact absurd hne (by first | (rw [stl_arg (.inl (by assumption))]; decide) | (rw [stl_arg (.inr (.inl (by assumption)))]; decide) | (rw [stl_arg (.inr (.inr (by omega)))]; decide) | (rw [stl_none (by assumption) (by assumption) (by omega) (by omega)]; decide) | (rw [stl_e1 (by assumption) (by assumption) (by omega) (by omega) (by assumption)]; assumption) | (rw [stl_e2 (by assumption) (by assumption) (by omega) (by omega) (by assumption) (by assumption)]; assumption))
  · refine Ok.evf (by kernel_rfl) 400 [.d, .f true (.bool (rightB a)), .v (.bool true), .d, .d, .d, .d, .d, .d, .d, .d, .d, .d] [0, 2, 5, 7, 8, 9, 10, 31] 3 (st' := (stX .any 92 [(0, .list (a.map encC)), (2, .int .i64 w), (5, .ptr 0 0), (7, .ptr 1 0), (8, .nilslice), (9, .ptr 2 0), (10, .int .i64 0), (31, .bool true)] (mP_pr_settleM v ln ld v0 v2 v3))) (e := .normal) (ob := [FnF Try.prog 67 true [.list (a.map encC)] (.bool (rightB a)),
        (.bool (!(rightB a)) : AV) = (.bool true : AV)]) (by kernel_rfl) ⟨pr_right (a := a) ha (by omega), (bNotT (bBF q1)), trivial⟩ ?_
    refine seq_n ?_
    refine Ok.evf (by kernel_rfl) 400 [.d, .d, .d, .d, .d] [8, 9, 10] 3 (st' := (stX .any 92 [(8, .nilslice), (9, .ptr 2 0), (10, .int .i64 1)] (mP_pr_settleM v ln ld v0 v2 v3))) (e := .ret) (ob := []) (by kernel_rfl) trivial ?_
    refine seq_r ?_
    exact absurd hne (by first | (rw [stl_arg (.inl (by assumption))]; decide) | (rw [stl_arg (.inr (.inl (by assumption)))]; decide) | (rw [stl_arg (.inr (.inr (by omega)))]; decide) | (rw [stl_none (by assumption) (by assumption) (by omega) (by omega)]; decide) | (rw [stl_e1 (by assumption) (by assumption) (by omega) (by omega) (by assumption)]; assumption) | (rw [stl_e2 (by assumption) (by assumption) (by omega) (by omega) (by assumption) (by assumption)]; assumption))

theorem ph17_31   : FnM Try.prog 17 [] [.list [.agg [.int .i64 1, .int .i64 3, .int .i64 1]], .list [.agg [.int .i64 1, .int .i64 1, .int .i64 30], .agg [.int .i64 1, .int .i64 2, .int .i64 7]], .int .i64 2, .int .i64 5] (.agg [.slice 0 0 2 0, .int .i64 0, .int .i64 0, .int .i64 0]) [.row 3 [.agg [.int .i64 0, .int .i64 5, .int .i64 1], .agg [.int .i64 1, .int .i64 57, .int .i64 2]] 0] :=
  fn_ev (by kernel_rfl) Try.func17 (by kernel_rfl) 400
      [.d, .d, .d, .d, .d, .c (.tuple [.slice 0 0 2 0, .int .i64 0]) [.row 3 [.agg [.int .i64 0, .int .i64 5, .int .i64 1], .agg [.int .i64 1, .int .i64 57, .int .i64 2]] 0], .d, .d, .d, .d, .d, .d, .d, .d, .d]
      [1] rfl (r := .agg [.slice 0 0 2 0, .int .i64 0, .int .i64 0, .int .i64 0]) (R := [.row 3 [.agg [.int .i64 0, .int .i64 5, .int .i64 1], .agg [.int .i64 1, .int .i64 57, .int .i64 2]] 0]) (ob := [FnM Try.prog 40 [] [.list [.agg [.int .i64 1, .int .i64 3, .int .i64 1]], .list [.agg [.int .i64 1, .int .i64 1, .int .i64 30], .agg [.int .i64 1, .int .i64 2, .int .i64 7]], .int .i64 2, .int .i64 5] (.tuple [.slice 0 0 2 0, .int .i64 0]) [.row 3 [.agg [.int .i64 0, .int .i64 5, .int .i64 1], .agg [.int .i64 1, .int .i64 57, .int .i64 2]] 0],
        ∀ e ∈ ([.agg [.int .i64 0, .int .i64 5, .int .i64 1], .agg [.int .i64 1, .int .i64 57, .int .i64 2]] : List AV), idsOf e = [],
        ∀ e ∈ ([.agg [.int .i64 0, .int .i64 5, .int .i64 1], .agg [.int .i64 1, .int .i64 57, .int .i64 2]] : List AV), idsOf e = []]) (by kernel_rfl)
      ⟨(by have h := pr_openM (l := [(⟨1, 3, 1⟩ : An)]) (L := [(⟨1, 1, 30⟩ : Rk), (⟨1, 2, 7⟩ : Rk)]) (m := 2) (base := 5) ex_right (by decide) (by decide) (by decide) (by kernel_rfl); rw [show opnL [(⟨1, 3, 1⟩ : An)] [(⟨1, 1, 30⟩ : Rk), (⟨1, 2, 7⟩ : Rk)] 2 5 = [(⟨0, 5, 1⟩ : Ac), (⟨1, 57, 2⟩ : Ac)] from by kernel_rfl] at h; exact h), (by simp [idsOf, idsL, encQ, encW, encK, encC, encF]), (by simp [idsOf, idsL, encQ, encW, encK, encC, encF]), trivial⟩

theorem ph12_32   : FnF Try.prog 12 true [.int .i64 40] (.agg [.int .i64 40, .int .i64 1]) :=
  fn_evF (by kernel_rfl) Try.func12 (by kernel_rfl) 400
      [.d, .d, .d, .d]
      (by kernel_rfl) (ob := [(40 : Int) = 40,
        (1 : Int) = 1]) (by kernel_rfl)
      ⟨rfl, rfl, trivial⟩

theorem ph18_33   : FnM Try.prog 18 [] [.list [.agg [.int .i64 0, .int .i64 5, .int .i64 1], .agg [.int .i64 1, .int .i64 57, .int .i64 2]], .agg [.int .i64 0, .int .i64 1, .int .i64 0, .int .i64 0], .int .i64 0, .agg [.int .i64 40, .int .i64 1]] (.agg [.slice 0 0 2 0, .int .i64 57, .int .i64 2, .int .i64 0]) [.row 3 [.agg [.int .i64 0, .int .i64 67, .int .i64 2], .agg [.int .i64 1, .int .i64 0, .int .i64 1]] 0] :=
  fn_ev (by kernel_rfl) Try.func18 (by kernel_rfl) 400
      [.d, .d, .d, .d, .d, .d, .d, .c (.tuple [.slice 0 0 2 0, .agg [.int .i64 57, .int .i64 2], .int .i64 0]) [.row 3 [.agg [.int .i64 0, .int .i64 67, .int .i64 2], .agg [.int .i64 1, .int .i64 0, .int .i64 1]] 0], .d, .d, .d, .d, .d, .d, .d, .d, .d, .d, .d, .d, .d]
      [3] rfl (r := .agg [.slice 0 0 2 0, .int .i64 57, .int .i64 2, .int .i64 0]) (R := [.row 3 [.agg [.int .i64 0, .int .i64 67, .int .i64 2], .agg [.int .i64 1, .int .i64 0, .int .i64 1]] 0]) (ob := [FnM Try.prog 41 [] [.list [.agg [.int .i64 0, .int .i64 5, .int .i64 1], .agg [.int .i64 1, .int .i64 57, .int .i64 2]], .agg [.int .i64 0, .int .i64 1, .int .i64 0, .int .i64 0], .int .i64 0, .agg [.int .i64 40, .int .i64 1]] (.tuple [.slice 0 0 2 0, .agg [.int .i64 57, .int .i64 2], .int .i64 0]) [.row 3 [.agg [.int .i64 0, .int .i64 67, .int .i64 2], .agg [.int .i64 1, .int .i64 0, .int .i64 1]] 0],
        ∀ e ∈ ([.agg [.int .i64 0, .int .i64 67, .int .i64 2], .agg [.int .i64 1, .int .i64 0, .int .i64 1]] : List AV), idsOf e = [],
        ∀ e ∈ ([.agg [.int .i64 0, .int .i64 67, .int .i64 2], .agg [.int .i64 1, .int .i64 0, .int .i64 1]] : List AV), idsOf e = []]) (by kernel_rfl)
      ⟨(by have h := pr_settleM (a := [(⟨0, 5, 1⟩ : Ac), (⟨1, 57, 2⟩ : Ac)]) (v := 1) (w := 0) (ln := 40) (ld := 1) (v0 := 0) (v2 := 0) (v3 := 0) (by simp [BdC]) (by decide) (by decide) (by decide) (by decide) (by decide) (by kernel_rfl); rw [show (stl [(⟨0, 5, 1⟩ : Ac), (⟨1, 57, 2⟩ : Ac)] 1 0 40 1) = ([(⟨0, 67, 2⟩ : Ac), (⟨1, 0, 1⟩ : Ac)], 57, 2, 0) from by kernel_rfl] at h; exact h), (by simp [idsOf, idsL, encQ, encW, encK, encC, encF]), (by simp [idsOf, idsL, encQ, encW, encK, encC, encF]), trivial⟩

theorem ph11_34   : FnF Try.prog 11 true [.list [.agg [.int .i64 1, .int .i64 3, .int .i64 1]], .agg [.int .i64 1, .int .i64 1, .int .i64 30]] (.agg [.int .i64 20, .int .i64 1, .int .i64 0]) :=
  fn_evF (by kernel_rfl) Try.func11 (by kernel_rfl) 400
      [.d, .d, .d, .d, .f true (.tuple [.agg [.int .i64 20, .int .i64 1], .int .i64 0]), .d, .d, .d, .d, .d, .d, .d, .d, .d, .d]
      (by kernel_rfl) (ob := [FnF Try.prog 30 true [.list [.agg [.int .i64 1, .int .i64 3, .int .i64 1]], .agg [.int .i64 1, .int .i64 1, .int .i64 30]] (.tuple [.agg [.int .i64 20, .int .i64 1], .int .i64 0]),
        (20 : Int) = 20,
        (1 : Int) = 1,
        (0 : Int) = 0]) (by kernel_rfl)
      ⟨(by have h := pr_premium (l := [(⟨1, 3, 1⟩ : An)]) (fi := 1) (k := 1) (c := 30) ex_right (by decide) (by decide) (by decide); rw [show (.tuple [.agg [.int .i64 (preN (cntQ [(⟨1, 3, 1⟩ : An)] 1) 1 1 30), .int .i64 (preD (cntQ [(⟨1, 3, 1⟩ : An)] 1) 1 1 30)], .int .i64 (preE (cntQ [(⟨1, 3, 1⟩ : An)] 1) 1 1 30)] : AV) = .tuple [.agg [.int .i64 20, .int .i64 1], .int .i64 0] from by kernel_rfl] at h; exact h), rfl, rfl, rfl, trivial⟩

theorem ph12_35   : FnF Try.prog 12 true [.int .i64 20] (.agg [.int .i64 20, .int .i64 1]) :=
  fn_evF (by kernel_rfl) Try.func12 (by kernel_rfl) 400
      [.d, .d, .d, .d]
      (by kernel_rfl) (ob := [(20 : Int) = 20,
        (1 : Int) = 1]) (by kernel_rfl)
      ⟨rfl, rfl, trivial⟩

theorem ph15_36   : FnF Try.prog 15 true [.list [.agg [.int .i64 1, .int .i64 3, .int .i64 1]], .list [.agg [.int .i64 1, .int .i64 1, .int .i64 30], .agg [.int .i64 1, .int .i64 2, .int .i64 7]], .int .i64 1, .int .i64 5] (.agg [.int .i64 57, .int .i64 2, .int .i64 0]) :=
  fn_evF (by kernel_rfl) Try.func15 (by kernel_rfl) 400
      [.d, .d, .d, .d, .d, .f true (.tuple [.agg [.int .i64 57, .int .i64 2], .int .i64 0]), .d, .d, .d, .d, .d, .d, .d, .d, .d, .d]
      (by kernel_rfl) (ob := [FnF Try.prog 33 true [.list [.agg [.int .i64 1, .int .i64 3, .int .i64 1]], .list [.agg [.int .i64 1, .int .i64 1, .int .i64 30], .agg [.int .i64 1, .int .i64 2, .int .i64 7]], .int .i64 1, .int .i64 5] (.tuple [.agg [.int .i64 57, .int .i64 2], .int .i64 0]),
        (57 : Int) = 57,
        (2 : Int) = 2,
        (0 : Int) = 0]) (by kernel_rfl)
      ⟨(by have h := pr_bond (l := [(⟨1, 3, 1⟩ : An)]) (L := [(⟨1, 1, 30⟩ : Rk), (⟨1, 2, 7⟩ : Rk)]) (f := 1) (base := 5) ex_right (by decide) (by decide) (by decide); rw [show (.tuple [.agg [.int .i64 (bonN [(⟨1, 3, 1⟩ : An)] [(⟨1, 1, 30⟩ : Rk), (⟨1, 2, 7⟩ : Rk)] 1 5), .int .i64 (bonD [(⟨1, 3, 1⟩ : An)] [(⟨1, 1, 30⟩ : Rk), (⟨1, 2, 7⟩ : Rk)] 1 5)], .int .i64 (bonE [(⟨1, 3, 1⟩ : An)] [(⟨1, 1, 30⟩ : Rk), (⟨1, 2, 7⟩ : Rk)] 1 5)] : AV) = .tuple [.agg [.int .i64 57, .int .i64 2], .int .i64 0] from by kernel_rfl] at h; exact h), rfl, rfl, rfl, trivial⟩

theorem ph12_37   : FnF Try.prog 12 true [.int .i64 5] (.agg [.int .i64 5, .int .i64 1]) :=
  fn_evF (by kernel_rfl) Try.func12 (by kernel_rfl) 400
      [.d, .d, .d, .d]
      (by kernel_rfl) (ob := [(5 : Int) = 5,
        (1 : Int) = 1]) (by kernel_rfl)
      ⟨rfl, rfl, trivial⟩

theorem ph12_38   : FnF Try.prog 12 true [.int .i64 0] (.agg [.int .i64 0, .int .i64 1]) :=
  fn_evF (by kernel_rfl) Try.func12 (by kernel_rfl) 400
      [.d, .d, .d, .d]
      (by kernel_rfl) (ob := [(0 : Int) = 0,
        (1 : Int) = 1]) (by kernel_rfl)
      ⟨rfl, rfl, trivial⟩

theorem ph11_39   : FnF Try.prog 11 true [.list [.agg [.int .i64 1, .int .i64 3, .int .i64 1]], .agg [.int .i64 0, .int .i64 0, .int .i64 0]] (.agg [.int .i64 0, .int .i64 0, .int .i64 1]) :=
  fn_evF (by kernel_rfl) Try.func11 (by kernel_rfl) 400
      [.d, .d, .d, .d, .f true (.tuple [.agg [.int .i64 0, .int .i64 0], .int .i64 1]), .d, .d, .d, .d, .d, .d, .d, .d, .d, .d]
      (by kernel_rfl) (ob := [FnF Try.prog 30 true [.list [.agg [.int .i64 1, .int .i64 3, .int .i64 1]], .agg [.int .i64 0, .int .i64 0, .int .i64 0]] (.tuple [.agg [.int .i64 0, .int .i64 0], .int .i64 1]),
        (0 : Int) = 0,
        (0 : Int) = 0,
        (1 : Int) = 1]) (by kernel_rfl)
      ⟨(by have h := pr_premium (l := [(⟨1, 3, 1⟩ : An)]) (fi := 0) (k := 0) (c := 0) ex_right (by decide) (by decide) (by decide); rw [show (.tuple [.agg [.int .i64 (preN (cntQ [(⟨1, 3, 1⟩ : An)] 0) 0 0 0), .int .i64 (preD (cntQ [(⟨1, 3, 1⟩ : An)] 0) 0 0 0)], .int .i64 (preE (cntQ [(⟨1, 3, 1⟩ : An)] 0) 0 0 0)] : AV) = .tuple [.agg [.int .i64 0, .int .i64 0], .int .i64 1] from by kernel_rfl] at h; exact h), rfl, rfl, rfl, trivial⟩

theorem ph12_40   : FnF Try.prog 12 true [.int .i64 1] (.agg [.int .i64 1, .int .i64 1]) :=
  fn_evF (by kernel_rfl) Try.func12 (by kernel_rfl) 400
      [.d, .d, .d, .d]
      (by kernel_rfl) (ob := [(1 : Int) = 1,
        (1 : Int) = 1]) (by kernel_rfl)
      ⟨rfl, rfl, trivial⟩

theorem ph18_41   : FnF Try.prog 18 true [.list [.agg [.int .i64 0, .int .i64 5, .int .i64 1], .agg [.int .i64 1, .int .i64 57, .int .i64 2]], .agg [.int .i64 0, .int .i64 2, .int .i64 0, .int .i64 0], .int .i64 0, .agg [.int .i64 1, .int .i64 1]] (.agg [.list [], .int .i64 0, .int .i64 0, .int .i64 4]) :=
  fn_evF (by kernel_rfl) Try.func18 (by kernel_rfl) 400
      [.d, .d, .d, .d, .d, .d, .d, .f true (.tuple [.list [], .agg [.int .i64 0, .int .i64 0], .int .i64 4]), .d, .d, .d, .d, .d, .d, .d, .d, .d, .d, .d, .d, .d]
      (by kernel_rfl) (ob := [FnF Try.prog 41 true [.list [.agg [.int .i64 0, .int .i64 5, .int .i64 1], .agg [.int .i64 1, .int .i64 57, .int .i64 2]], .agg [.int .i64 0, .int .i64 2, .int .i64 0, .int .i64 0], .int .i64 0, .agg [.int .i64 1, .int .i64 1]] (.tuple [.list [], .agg [.int .i64 0, .int .i64 0], .int .i64 4]),
        ([] : List AV) = [],
        ([] : List AV) = [],
        (0 : Int) = 0,
        (0 : Int) = 0,
        (4 : Int) = 4]) (by kernel_rfl)
      ⟨(by have h := pr_settle (a := [(⟨0, 5, 1⟩ : Ac), (⟨1, 57, 2⟩ : Ac)]) (v := 2) (w := 0) (ln := 1) (ld := 1) (v0 := 0) (v2 := 0) (v3 := 0) (by simp [BdC]) (by decide) (by decide) (by decide) (by decide) (by decide); rw [show (.tuple [.list ((stl [(⟨0, 5, 1⟩ : Ac), (⟨1, 57, 2⟩ : Ac)] 2 0 1 1).1.map encC), .agg [.int .i64 ((stl [(⟨0, 5, 1⟩ : Ac), (⟨1, 57, 2⟩ : Ac)] 2 0 1 1).2.1), .int .i64 ((stl [(⟨0, 5, 1⟩ : Ac), (⟨1, 57, 2⟩ : Ac)] 2 0 1 1).2.2.1)], .int .i64 ((stl [(⟨0, 5, 1⟩ : Ac), (⟨1, 57, 2⟩ : Ac)] 2 0 1 1).2.2.2)] : AV) = .tuple [.list [], .agg [.int .i64 0, .int .i64 0], .int .i64 4] from by kernel_rfl] at h; exact h), rfl, rfl, rfl, rfl, rfl, trivial⟩

theorem pr_examples   : FnF Try.prog 9 true [] (.bool true) := by
  exact fn_evF (by kernel_rfl) Try.func9 (by kernel_rfl) 400 [.d, .d, .d, .d, .d, .d, .d, .d, .d, .d, .c (.agg [.slice 0 0 2 0, .int .i64 0, .int .i64 0, .int .i64 0]) [.row 3 [.agg [.int .i64 0, .int .i64 5, .int .i64 1], .agg [.int .i64 1, .int .i64 57, .int .i64 2]] 0], .d, .d, .d, .d, .d, .d, .d, .d, .d, .d, .d, .d, .d, .d, .d, .f true (.agg [.int .i64 40, .int .i64 1]), .c (.agg [.slice 0 0 2 0, .int .i64 57, .int .i64 2, .int .i64 0]) [.row 3 [.agg [.int .i64 0, .int .i64 67, .int .i64 2], .agg [.int .i64 1, .int .i64 0, .int .i64 1]] 0], .d, .d, .d, .d, .d, .d, .f true (.agg [.int .i64 20, .int .i64 1, .int .i64 0]), .f true (.agg [.int .i64 20, .int .i64 1]), .d, .v (.bool true), .d, .d, .d, .f true (.agg [.int .i64 57, .int .i64 2, .int .i64 0]), .d, .d, .v (.bool true), .d, .d, .d, .d, .d, .d, .d, .f true (.agg [.int .i64 5, .int .i64 1]), .v (.bool true), .d, .d, .d, .d, .d, .d, .d, .d, .d, .d, .v (.bool true), .d, .d, .d, .d, .d, .d, .d, .d, .d, .d, .d, .d, .d, .f true (.agg [.int .i64 0, .int .i64 1]), .v (.bool true), .d, .d, .d, .d, .d, .d, .d, .d, .v (.bool true), .d, .d, .d, .d, .f true (.agg [.int .i64 0, .int .i64 0, .int .i64 1]), .d, .d, .d, .d, .d, .d, .d, .f true (.agg [.int .i64 1, .int .i64 1]), .f true (.agg [.list [], .int .i64 0, .int .i64 0, .int .i64 4]), .d, .d, .d, .d] (by kernel_rfl) (ob := [FnM Try.prog 17 [] [.list [.agg [.int .i64 1, .int .i64 3, .int .i64 1]], .list [.agg [.int .i64 1, .int .i64 1, .int .i64 30], .agg [.int .i64 1, .int .i64 2, .int .i64 7]], .int .i64 2, .int .i64 5] (.agg [.slice 0 0 2 0, .int .i64 0, .int .i64 0, .int .i64 0]) [.row 3 [.agg [.int .i64 0, .int .i64 5, .int .i64 1], .agg [.int .i64 1, .int .i64 57, .int .i64 2]] 0], plainV (.agg [.slice 0 0 2 0, .int .i64 0, .int .i64 0, .int .i64 0]) = true, ∀ x ∈ ([.row 3 [.agg [.int .i64 0, .int .i64 5, .int .i64 1], .agg [.int .i64 1, .int .i64 57, .int .i64 2]] 0] : List Blk), PlainB x, ∀ e ∈ ([.agg [.int .i64 0, .int .i64 5, .int .i64 1], .agg [.int .i64 1, .int .i64 57, .int .i64 2]] : List AV), idsOf e = [], ∀ e ∈ ([.agg [.int .i64 1, .int .i64 3, .int .i64 1]] : List AV), idsOf e = [], ∀ e ∈ ([.agg [.int .i64 1, .int .i64 1, .int .i64 30], .agg [.int .i64 1, .int .i64 2, .int .i64 7]] : List AV), idsOf e = [], FnF Try.prog 12 true [.int .i64 40] (.agg [.int .i64 40, .int .i64 1]), FnM Try.prog 18 [] [.list [.agg [.int .i64 0, .int .i64 5, .int .i64 1], .agg [.int .i64 1, .int .i64 57, .int .i64 2]], .agg [.int .i64 0, .int .i64 1, .int .i64 0, .int .i64 0], .int .i64 0, .agg [.int .i64 40, .int .i64 1]] (.agg [.slice 0 0 2 0, .int .i64 57, .int .i64 2, .int .i64 0]) [.row 3 [.agg [.int .i64 0, .int .i64 67, .int .i64 2], .agg [.int .i64 1, .int .i64 0, .int .i64 1]] 0], plainV (.agg [.slice 0 0 2 0, .int .i64 57, .int .i64 2, .int .i64 0]) = true, ∀ x ∈ ([.row 3 [.agg [.int .i64 0, .int .i64 67, .int .i64 2], .agg [.int .i64 1, .int .i64 0, .int .i64 1]] 0] : List Blk), PlainB x, ∀ e ∈ ([.agg [.int .i64 0, .int .i64 67, .int .i64 2], .agg [.int .i64 1, .int .i64 0, .int .i64 1]] : List AV), idsOf e = [], ∀ e ∈ ([.agg [.int .i64 0, .int .i64 5, .int .i64 1], .agg [.int .i64 1, .int .i64 57, .int .i64 2]] : List AV), idsOf e = [], 0 ≤ (0 : Int) ∧ (0 : Int) < (2 : Nat), FnF Try.prog 11 true [.list [.agg [.int .i64 1, .int .i64 3, .int .i64 1]], .agg [.int .i64 1, .int .i64 1, .int .i64 30]] (.agg [.int .i64 20, .int .i64 1, .int .i64 0]), ∀ e ∈ ([.agg [.int .i64 1, .int .i64 3, .int .i64 1]] : List AV), idsOf e = [], FnF Try.prog 12 true [.int .i64 20] (.agg [.int .i64 20, .int .i64 1]), (.bool ((((20 : Int) == 20) && (((1 : Int) == 1) && true)) && (((0 : Int) == 0) && true)) : AV) = (.bool true : AV), FnF Try.prog 15 true [.list [.agg [.int .i64 1, .int .i64 3, .int .i64 1]], .list [.agg [.int .i64 1, .int .i64 1, .int .i64 30], .agg [.int .i64 1, .int .i64 2, .int .i64 7]], .int .i64 1, .int .i64 5] (.agg [.int .i64 57, .int .i64 2, .int .i64 0]), ∀ e ∈ ([.agg [.int .i64 1, .int .i64 3, .int .i64 1]] : List AV), idsOf e = [], ∀ e ∈ ([.agg [.int .i64 1, .int .i64 1, .int .i64 30], .agg [.int .i64 1, .int .i64 2, .int .i64 7]] : List AV), idsOf e = [], (.bool ((((57 : Int) == 57) && (((2 : Int) == 2) && true)) && (((0 : Int) == 0) && true)) : AV) = (.bool true : AV), 0 ≤ (0 : Int) ∧ (0 : Int) < (2 : Nat), FnF Try.prog 12 true [.int .i64 5] (.agg [.int .i64 5, .int .i64 1]), (.bool (((5 : Int) == 5) && (((1 : Int) == 1) && true)) : AV) = (.bool true : AV), (.bool (((57 : Int) == 57) && (((2 : Int) == 2) && true)) : AV) = (.bool true : AV), 0 ≤ (1 : Int) ∧ (1 : Int) < (2 : Nat), FnF Try.prog 12 true [.int .i64 0] (.agg [.int .i64 0, .int .i64 1]), (.bool (((0 : Int) == 0) && (((1 : Int) == 1) && true)) : AV) = (.bool true : AV), 0 ≤ (0 : Int) ∧ (0 : Int) < (2 : Nat), (.bool (((67 : Int) == 67) && (((2 : Int) == 2) && true)) : AV) = (.bool true : AV), FnF Try.prog 11 true [.list [.agg [.int .i64 1, .int .i64 3, .int .i64 1]], .agg [.int .i64 0, .int .i64 0, .int .i64 0]] (.agg [.int .i64 0, .int .i64 0, .int .i64 1]), ∀ e ∈ ([.agg [.int .i64 1, .int .i64 3, .int .i64 1]] : List AV), idsOf e = [], FnF Try.prog 12 true [.int .i64 1] (.agg [.int .i64 1, .int .i64 1]), FnF Try.prog 18 true [.list [.agg [.int .i64 0, .int .i64 5, .int .i64 1], .agg [.int .i64 1, .int .i64 57, .int .i64 2]], .agg [.int .i64 0, .int .i64 2, .int .i64 0, .int .i64 0], .int .i64 0, .agg [.int .i64 1, .int .i64 1]] (.agg [.list [], .int .i64 0, .int .i64 0, .int .i64 4]), ∀ e ∈ ([.agg [.int .i64 0, .int .i64 5, .int .i64 1], .agg [.int .i64 1, .int .i64 57, .int .i64 2]] : List AV), idsOf e = [], (true : Bool) = true]) (by kernel_rfl) ⟨ph17_31, rfl, (by simp [PlainB, plainV, encQ, encW, encK, encC, encF, plainL]), (by simp [idsOf, idsL, encQ, encW, encK, encC, encF]), (by simp [idsOf, idsL, encQ, encW, encK, encC, encF]), (by simp [idsOf, idsL, encQ, encW, encK, encC, encF]), ph12_32, ph18_33, rfl, (by simp [PlainB, plainV, encQ, encW, encK, encC, encF, plainL]), (by simp [idsOf, idsL, encQ, encW, encK, encC, encF]), (by simp [idsOf, idsL, encQ, encW, encK, encC, encF]), (by decide), ph11_34, (by simp [idsOf, idsL, encQ, encW, encK, encC, encF]), ph12_35, (bAnd (bAnd (eT (by omega)) (bAnd (eT (by omega)) rfl)) (bAnd (eT (by omega)) rfl)), ph15_36, (by simp [idsOf, idsL, encQ, encW, encK, encC, encF]), (by simp [idsOf, idsL, encQ, encW, encK, encC, encF]), (bAnd (bAnd (eT (by omega)) (bAnd (eT (by omega)) rfl)) (bAnd (eT (by omega)) rfl)), (by decide), ph12_37, (bAnd (eT (by omega)) (bAnd (eT (by omega)) rfl)), (bAnd (eT (by omega)) (bAnd (eT (by omega)) rfl)), (by decide), ph12_38, (bAnd (eT (by omega)) (bAnd (eT (by omega)) rfl)), (by decide), (bAnd (eT (by omega)) (bAnd (eT (by omega)) rfl)), ph11_39, (by simp [idsOf, idsL, encQ, encW, encK, encC, encF]), ph12_40, ph18_41, (by simp [idsOf, idsL, encQ, encW, encK, encC, encF]), rfl, trivial⟩

end Go.Proofs.Ytkijlggnnbdeiaa
