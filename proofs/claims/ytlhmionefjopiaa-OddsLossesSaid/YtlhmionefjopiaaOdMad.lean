/- Made and Same -/
import Derived.Test.YtlhmionefjopiaaOdLrn
import Derived.Test.YtlhmionefjopiaaEvY
import Derived.Test.YtlhmionefjopiaaProg
set_option linter.unusedVariables false
set_option linter.unusedSimpArgs false
namespace Go.Proofs.Ytlhmionefjopiaa
open Go.RowKit
set_option maxRecDepth 100000

structure Rq where
  kind : Int
  far : Int
  right : Int
  wrong : Int
def w0 : Rq := ⟨0, 0, 0, 0⟩
def encW (x : Rq) : AV := .agg [.int .u8 x.kind, .int .u8 x.far, .int .u16 x.right, .int .u16 x.wrong]
def BdW (x : Rq) : Prop := (0 ≤ x.kind ∧ x.kind ≤ 255) ∧ (0 ≤ x.far ∧ x.far ≤ 255) ∧ (0 ≤ x.right ∧ x.right ≤ 65535) ∧ 0 ≤ x.wrong ∧ x.wrong ≤ 65535
def mkR (x : Rq) : Int := if x.far % 8 = 7 then 1073741824 - x.right % 3 else x.right
theorem mk_far {x : Rq} (h : x.far % 8 = 7) : mkR x = 1073741824 - x.right % 3 := by rw [mkR, if_pos h]
theorem mk_near {x : Rq} (h : ¬ x.far % 8 = 7) : mkR x = x.right := by rw [mkR, if_neg h]
/-- The first description of a kind. -/
def findR (L : List Rq) (k : Int) : Option Rq := L.find? fun x => decide (1 + x.kind % 14 = k)
def stepR (L : List Rq) (k : Int) : List An := match findR L k with
  | none => []
  | some x => [⟨k, mkR x, x.wrong⟩]
def madeN (L : List Rq) : Nat → List An
  | 0 => []
  | n + 1 => madeN L n ++ stepR L ((n : Int) + 1)
def madeF (L : List Rq) : List An := madeN L 14
theorem getW {L : List Rq} {n : Nat} (h : n < L.length) : L.getD n w0 = L[n] := by rw [List.getD_eq_getElem?_getD, List.getElem?_eq_getElem h]; rfl
theorem find_none {L : List Rq} {k : Int} (h : ∀ j, j < L.length → ¬ 1 + (L.getD j w0).kind % 14 = k) : stepR L k = [] := by
  have : findR L k = none := by
    unfold findR
    rw [List.find?_eq_none]
    intro x hx
    obtain ⟨n, hn, rfl⟩ := List.getElem_of_mem hx
    have := h n hn
    rw [getW hn] at this
    simpa using this
  rw [stepR, this]
theorem find_some {L : List Rq} {k : Int} {i : Nat} (hi : i < L.length) (h : ∀ j, j < i → ¬ 1 + (L.getD j w0).kind % 14 = k) (he : 1 + (L.getD i w0).kind % 14 = k) : stepR L k = [⟨k, mkR (L.getD i w0), (L.getD i w0).wrong⟩] := by
  have : findR L k = some (L.getD i w0) := by
    unfold findR
    rw [List.find?_eq_some_iff_getElem]
    refine ⟨by simpa using he, i, hi, (getW hi).symm, fun j hj => ?_⟩
    have := h j hj
    rw [getW (by omega)] at this
    simpa using this
  rw [stepR, this]
theorem made_no {L : List Rq} {n : Nat} (h : ∀ j, j < L.length → ¬ 1 + (L.getD j w0).kind % 14 = (n : Int) + 1) : madeN L (n + 1) = madeN L n := by rw [madeN, find_none h, List.append_nil]
theorem made_yes {L : List Rq} {n i : Nat} {x : An} (hi : i < L.length) (h : ∀ j, j < i → ¬ 1 + (L.getD j w0).kind % 14 = (n : Int) + 1) (he : 1 + (L.getD i w0).kind % 14 = (n : Int) + 1) (hx : (⟨(n : Int) + 1, mkR (L.getD i w0), (L.getD i w0).wrong⟩ : An) = x) : madeN L (n + 1) = madeN L n ++ [x] := by rw [madeN, find_some hi h he, hx]
theorem bdW_get {L : List Rq} (h : ∀ x ∈ L, BdW x) (n : Nat) : BdW (L.getD n w0) := by
  by_cases hn : n < L.length
  · rw [getW hn]; exact h _ (List.getElem_mem hn)
  · rw [List.getD_eq_getElem?_getD, List.getElem?_eq_none (by omega)]; simp [BdW, w0]
theorem madeN_ok {L : List Rq} (h : ∀ x ∈ L, BdW x) : ∀ n, n ≤ 14 → Srt (madeN L n) ∧ ∀ x ∈ madeN L n, okQ x ∧ x.kind ≤ n
  | 0, _ => ⟨List.Pairwise.nil, fun x hx => by simp [madeN] at hx⟩
  | n + 1, hn => by
    obtain ⟨h1, h2⟩ := madeN_ok h n (by omega)
    have key : ∀ x ∈ stepR L ((n : Int) + 1), okQ x ∧ x.kind = (n : Int) + 1 := fun x hx => by
      unfold stepR at hx
      split at hx
      · simp at hx
      · rename_i y hy
        have := h y (List.mem_of_find?_eq_some hy)
        simp only [List.mem_singleton] at hx
        subst hx
        unfold BdW at this
        unfold okQ mkR
        refine ⟨?_, rfl⟩
        simp only
        split <;> omega
    rw [madeN]
    constructor
    · refine List.pairwise_append.2 ⟨h1, ?_, fun x hx y hy => by have := (h2 x hx).2; have := (key y hy).2; omega⟩
      unfold stepR; split <;> simp
    · intro x hx
      rcases List.mem_append.1 hx with hx | hx
      · exact ⟨(h2 x hx).1, by have := (h2 x hx).2; omega⟩
      · exact ⟨(key x hx).1, by have := (key x hx).2; omega⟩
theorem made_right {L : List Rq} (h : ∀ x ∈ L, BdW x) : RightP (madeF L) :=
  right_iff.2 ⟨(madeN_ok h 14 (by omega)).1, fun x hx => ((madeN_ok h 14 (by omega)).2 x hx).1⟩
theorem an_ext (a b : An) : (a = b) ↔ a.kind = b.kind ∧ a.right = b.right ∧ a.wrong = b.wrong := by
  cases a; cases b; simp
instance : DecidableEq An := fun a b => decidable_of_iff _ (an_ext a b).symm
theorem an_eq (a b : An) : AV.bool (a.kind == b.kind && (a.right == b.right && (a.wrong == b.wrong && true))) = AV.bool (decide (a = b)) := by
  congr 1
  rw [Bool.eq_iff_iff]
  simp [an_ext]
theorem list_all {a b : List An} (hl : a.length = b.length) (h : ∀ n, n < a.length → a.getD n q0 = b.getD n q0) : a = b := by
  refine List.ext_getElem hl fun n h1 h2 => ?_
  have := h n h1
  rwa [getD_get h1, getD_get h2] at this
theorem made_len {L : List Rq} (h : ∀ x ∈ L, BdW x) {n : Nat} (hn : n ≤ 14) : (madeN L n).length ≤ 14 := by
  obtain ⟨h1, h2⟩ := madeN_ok h n hn
  have := srt_len (a := 1) (b := 14) h1 fun x hx => ⟨(h2 x hx).1.1, (h2 x hx).1.2.1⟩
  omega
theorem od_same {a b : List An} (hn : a.length ≤ 900000) : FnF Try.prog 22 true [.list (a.map encQ), .list (b.map encQ)] (.bool (decide (a = b))) := by
  refine fn_walkF Try.func22 (by kernel_rfl) (by kernel_rfl) (by kernel_rfl) (st := ⟨[.list (a.map encQ), .list (b.map encQ), .tuple [], .tuple [], .tuple [], .tuple [], .tuple [], .tuple [], .tuple [], .tuple [], .tuple [], .tuple [], .tuple [], .tuple [], .tuple [], .tuple [], .tuple [], .tuple [], .tuple [], .tuple [], .tuple [], .tuple [], .tuple [], .tuple [], .tuple [], .tuple []], []⟩) rfl ?_
  refine Ok.seqP [] (by kernel_rfl) ?_
  refine Ok.evf (by kernel_rfl) 400 [.d] [0, 1, 4, 5, 6, 7, 8, 9, 10, 11, 12, 13, 14, 15, 16, 17, 18, 19, 20, 21, 22, 23, 24, 25] 0 (st' := ⟨[.list (a.map encQ), .list (b.map encQ), .any, .any, .bool false, .tuple [], .tuple [], .tuple [], .tuple [], .tuple [], .tuple [], .tuple [], .tuple [], .tuple [], .tuple [], .tuple [], .tuple [], .tuple [], .tuple [], .tuple [], .tuple [], .tuple [], .tuple [], .tuple [], .tuple [], .tuple []], []⟩) (e := .normal) (ob := []) (by kernel_rfl) trivial ?_
  refine seq_n ?_
  refine Ok.seqP [true] (by kernel_rfl) ?_
  refine Ok.seqP [true, false] (by kernel_rfl) ?_
  by_cases q1 : (a.length : Int) = (b.length : Int)
  · refine Ok.evf (by kernel_rfl) 400 [.d, .v (.int .i64 (a.length : Int)), .d, .v (.int .i64 (b.length : Int)), .v (.bool false)] [0, 1, 4, 5, 10, 11, 12, 13, 14, 15, 16, 17, 18, 19, 20, 21, 22, 23, 24, 25] 0 (st' := ⟨[.list (a.map encQ), .list (b.map encQ), .any, .any, .bool false, .tuple [], .any, .any, .any, .any, .bool false, .tuple [], .tuple [], .tuple [], .tuple [], .tuple [], .tuple [], .tuple [], .tuple [], .tuple [], .tuple [], .tuple [], .tuple [], .tuple [], .tuple [], .tuple []], []⟩) (e := .normal) (ob := [(.int .i64 (((a.map encQ).length : Nat) : Int) : AV) = (.int .i64 (a.length : Int) : AV),
        (.int .i64 (((b.map encQ).length : Nat) : Int) : AV) = (.int .i64 (b.length : Int) : AV),
        (.bool ((a.length : Int) != (b.length : Int)) : AV) = (.bool false : AV)]) (by kernel_rfl) ⟨len_map, len_map, (nF q1), trivial⟩ ?_
    refine seq_n ?_
    refine Ok.evf (by kernel_rfl) 400 [.d] [0, 1, 4, 5, 11, 12, 13, 14, 15, 16, 17, 18, 19, 20, 21, 22, 23, 24, 25] 0 (st' := ⟨[.list (a.map encQ), .list (b.map encQ), .any, .any, .bool false, .tuple [], .any, .any, .any, .any, .any, .tuple [], .tuple [], .tuple [], .tuple [], .tuple [], .tuple [], .tuple [], .tuple [], .tuple [], .tuple [], .tuple [], .tuple [], .tuple [], .tuple [], .tuple []], []⟩) (e := .normal) (ob := []) (by kernel_rfl) trivial ?_
    refine seq_n ?_
    refine Ok.seqP [true, true] (by kernel_rfl) ?_
    refine Ok.seqP [true, true, false] (by kernel_rfl) ?_
    refine Ok.evf (by kernel_rfl) 400 [.d] [0, 1, 5] 0 (st' := ⟨[.list (a.map encQ), .list (b.map encQ), .any, .any, .any, .int .i64 0, .any, .any, .any, .any, .any, .any, .any, .any, .any, .any, .any, .any, .any, .any, .any, .any, .any, .any, .any, .any], []⟩) (e := .normal) (ob := []) (by kernel_rfl) trivial ?_
    refine seq_n ?_
    refine Ok.blockP [true, true, false, true] 0 (by kernel_rfl) ?_
    refine Ok.loopB [true, true, false, true, false] (by kernel_rfl) (fun m_ s_ => ∃ (i : Nat), (i ≤ a.length) ∧ (∀ n, n < i → a.getD n q0 = b.getD n q0) ∧ m_ = a.length - i ∧ s_ = ⟨[.list (a.map encQ), .list (b.map encQ), .any, .any, .any, .int .i64 ((i : Nat) : Int), .any, .any, .any, .any, .any, .any, .any, .any, .any, .any, .any, .any, .any, .any, .any, .any, .any, .any, .any, .any], []⟩) (a.length - 0) (⟨0, (by omega), fun n hn => by omega, rfl, rfl⟩) ?_
    rintro m_ s_ ⟨i, hi, hp, rfl, rfl⟩
    refine Ok.seqP [true, true, false, true, false, false] (by kernel_rfl) ?_
    refine Ok.seqP [true, true, false, true, false, false, false] (by kernel_rfl) ?_
    by_cases q2 : ((i : Nat) : Int) < (a.length : Int)
    · refine Ok.evf (by kernel_rfl) 400 [.d, .d, .v (.int .i64 (a.length : Int)), .v (.bool true)] [0, 1, 4, 5, 14, 15, 16, 17, 18, 19, 20, 21, 22, 23, 24, 25] 0 (st' := ⟨[.list (a.map encQ), .list (b.map encQ), .any, .any, .any, .int .i64 ((i : Nat) : Int), .any, .any, .any, .any, .any, .any, .any, .any, .bool true, .any, .any, .any, .any, .any, .any, .any, .any, .any, .any, .any], []⟩) (e := .normal) (ob := [(.int .i64 (((a.map encQ).length : Nat) : Int) : AV) = (.int .i64 (a.length : Int) : AV),
        (.bool (decide (((i : Nat) : Int) < (a.length : Int))) : AV) = (.bool true : AV)]) (by kernel_rfl) ⟨len_map, (bT q2), trivial⟩ ?_
      refine seq_n ?_
      refine Ok.evf (by kernel_rfl) 400 [.d] [0, 1, 4, 5, 15, 16, 17, 18, 19, 20, 21, 22, 23, 24, 25] 0 (st' := ⟨[.list (a.map encQ), .list (b.map encQ), .any, .any, .any, .int .i64 ((i : Nat) : Int), .any, .any, .any, .any, .any, .any, .any, .any, .any, .any, .any, .any, .any, .any, .any, .any, .any, .any, .any, .any], []⟩) (e := .normal) (ob := []) (by kernel_rfl) trivial ?_
      refine seq_n ?_
      refine Ok.seqP [true, true, false, true, false, false, true] (by kernel_rfl) ?_
      refine Ok.blockP [true, true, false, true, false, false, true, false] 1 (by kernel_rfl) ?_
      refine Ok.seqP [true, true, false, true, false, false, true, false, false] (by kernel_rfl) ?_
      by_cases q3 : (a.getD i q0) = (b.getD i q0)
      · refine Ok.evf (by kernel_rfl) 400 [.d, .d, .e (encQ (a.getD i q0)), .d, .d, .d, .e (encQ (b.getD i q0)), .d, .v (.bool false)] [0, 1, 4, 5, 15, 16, 25] 0 (st' := ⟨[.list (a.map encQ), .list (b.map encQ), .any, .any, .any, .int .i64 ((i : Nat) : Int), .any, .any, .any, .any, .any, .any, .any, .any, .any, .any, .any, .any, .any, .any, .any, .any, .any, .any, .any, .bool false], []⟩) (e := .normal) (ob := [0 ≤ ((i : Nat) : Int),
        (a.map encQ)[((i : Nat) : Int).toNat]? = some (encQ (a.getD i q0)),
        0 ≤ ((i : Nat) : Int),
        (b.map encQ)[((i : Nat) : Int).toNat]? = some (encQ (b.getD i q0)),
        (.bool (!((((a.getD i q0).kind) == ((b.getD i q0).kind)) && ((((a.getD i q0).right) == ((b.getD i q0).right)) && ((((a.getD i q0).wrong) == ((b.getD i q0).wrong)) && true)))) : AV) = (.bool false : AV)]) (by kernel_rfl) ⟨(by omega), elemN (by omega) (by omega), (by omega), elemN (by omega) (by omega), bNotF ((an_eq (a.getD i q0) (b.getD i q0)).trans (bT q3)), trivial⟩ ?_
        refine seq_n ?_
        refine Ok.evf (by kernel_rfl) 400 [.d] [0, 1, 4, 5, 15, 16] 0 (st' := ⟨[.list (a.map encQ), .list (b.map encQ), .any, .any, .any, .int .i64 ((i : Nat) : Int), .any, .any, .any, .any, .any, .any, .any, .any, .any, .any, .any, .any, .any, .any, .any, .any, .any, .any, .any, .any], []⟩) (e := .normal) (ob := []) (by kernel_rfl) trivial ?_
        refine blk_n ?_
        refine seq_n ?_
        refine Ok.evf (by kernel_rfl) 400 [.d, .v (.int .i64 (((i : Nat) : Int) + 1)), .d] [0, 1, 5] 0 (st' := ⟨[.list (a.map encQ), .list (b.map encQ), .any, .any, .any, .int .i64 (((i : Nat) : Int) + 1), .any, .any, .any, .any, .any, .any, .any, .any, .any, .any, .any, .any, .any, .any, .any, .any, .any, .any, .any, .any], []⟩) (e := .normal) (ob := [(.int .i64 (IntKind.wrap .i64 (((i : Nat) : Int) + 1)) : AV) = (.int .i64 (((i : Nat) : Int) + 1) : AV)]) (by kernel_rfl) ⟨iW (w64 (by omega) (by omega)), trivial⟩ ?_
        exact loop_g [0, 1, 5] 0 (a.length - (i + 1)) (by omega) rfl (s' := ⟨[.list (a.map encQ), .list (b.map encQ), .any, .any, .any, .int .i64 (((i : Nat) : Int) + 1), .any, .any, .any, .any, .any, .any, .any, .any, .any, .any, .any, .any, .any, .any, .any, .any, .any, .any, .any, .any], []⟩) (ob := []) (by kernel_rfl) trivial (⟨(i + 1), (by omega), upto_step hp (by assumption), rfl, rfl⟩)
      · refine Ok.evf (by kernel_rfl) 400 [.d, .d, .e (encQ (a.getD i q0)), .d, .d, .d, .e (encQ (b.getD i q0)), .d, .v (.bool true)] [0, 1, 4, 5, 15, 16, 25] 0 (st' := ⟨[.list (a.map encQ), .list (b.map encQ), .any, .any, .any, .int .i64 ((i : Nat) : Int), .any, .any, .any, .any, .any, .any, .any, .any, .any, .any, .any, .any, .any, .any, .any, .any, .any, .any, .any, .bool true], []⟩) (e := .normal) (ob := [0 ≤ ((i : Nat) : Int),
        (a.map encQ)[((i : Nat) : Int).toNat]? = some (encQ (a.getD i q0)),
        0 ≤ ((i : Nat) : Int),
        (b.map encQ)[((i : Nat) : Int).toNat]? = some (encQ (b.getD i q0)),
        (.bool (!((((a.getD i q0).kind) == ((b.getD i q0).kind)) && ((((a.getD i q0).right) == ((b.getD i q0).right)) && ((((a.getD i q0).wrong) == ((b.getD i q0).wrong)) && true)))) : AV) = (.bool true : AV)]) (by kernel_rfl) ⟨(by omega), elemN (by omega) (by omega), (by omega), elemN (by omega) (by omega), bNotT ((an_eq (a.getD i q0) (b.getD i q0)).trans (bF q3)), trivial⟩ ?_
        refine seq_n ?_
        refine Ok.evf (by kernel_rfl) 400 [.d, .d] [4] 0 (st' := ⟨[.any, .any, .any, .any, .bool false, .any, .any, .any, .any, .any, .any, .any, .any, .any, .any, .any, .any, .any, .any, .any, .any, .any, .any, .any, .any, .any], []⟩) (e := .ret) (ob := []) (by kernel_rfl) trivial ?_
        refine blk_r ?_
        refine seq_r ?_
        refine loopg_r ?_
        refine blk_r ?_
        refine seq_r ?_
        exact ⟨.inr rfl, finF_of (ob := [(false : Bool) = decide (a = b)]) (by kernel_rfl) ⟨(by first | (rw [decide_eq_false (fun h : a = b => by subst h; omega)]; done) | (rw [decide_eq_true (list_all (by omega) (fun n hn => hp n (by omega)))]; done) | (rw [decide_eq_false (fun h : a = b => by subst h; exact absurd rfl ‹¬ _›)])), trivial⟩⟩
    · refine Ok.evf (by kernel_rfl) 400 [.d, .d, .v (.int .i64 (a.length : Int)), .v (.bool false)] [0, 1, 4, 5, 14, 15, 16, 17, 18, 19, 20, 21, 22, 23, 24, 25] 0 (st' := ⟨[.list (a.map encQ), .list (b.map encQ), .any, .any, .any, .int .i64 ((i : Nat) : Int), .any, .any, .any, .any, .any, .any, .any, .any, .bool false, .any, .any, .any, .any, .any, .any, .any, .any, .any, .any, .any], []⟩) (e := .normal) (ob := [(.int .i64 (((a.map encQ).length : Nat) : Int) : AV) = (.int .i64 (a.length : Int) : AV),
        (.bool (decide (((i : Nat) : Int) < (a.length : Int))) : AV) = (.bool false : AV)]) (by kernel_rfl) ⟨len_map, (bF q2), trivial⟩ ?_
      refine seq_n ?_
      refine Ok.evf (by kernel_rfl) 400 [.d] [4] 0 (st' := ⟨[.any, .any, .any, .any, .any, .any, .any, .any, .any, .any, .any, .any, .any, .any, .any, .any, .any, .any, .any, .any, .any, .any, .any, .any, .any, .any], []⟩) (e := (.exit 0)) (ob := []) (by kernel_rfl) trivial ?_
      refine seq_e ?_
      refine loopg_e ?_
      refine blkQ_here ?_
      refine seq_n ?_
      refine Ok.evf (by kernel_rfl) 400 [.d] [4] 0 (st' := ⟨[.any, .any, .any, .any, .bool true, .any, .any, .any, .any, .any, .any, .any, .any, .any, .any, .any, .any, .any, .any, .any, .any, .any, .any, .any, .any, .any], []⟩) (e := .ret) (ob := []) (by kernel_rfl) trivial ?_
      exact ⟨.inr rfl, finF_of (ob := [(true : Bool) = decide (a = b)]) (by kernel_rfl) ⟨(by first | (rw [decide_eq_false (fun h : a = b => by subst h; omega)]; done) | (rw [decide_eq_true (list_all (by omega) (fun n hn => hp n (by omega)))]; done) | (rw [decide_eq_false (fun h : a = b => by subst h; exact absurd rfl ‹¬ _›)])), trivial⟩⟩
  · refine Ok.evf (by kernel_rfl) 400 [.d, .v (.int .i64 (a.length : Int)), .d, .v (.int .i64 (b.length : Int)), .v (.bool true)] [0, 1, 4, 5, 10, 11, 12, 13, 14, 15, 16, 17, 18, 19, 20, 21, 22, 23, 24, 25] 0 (st' := ⟨[.list (a.map encQ), .list (b.map encQ), .any, .any, .bool false, .tuple [], .any, .any, .any, .any, .bool true, .tuple [], .tuple [], .tuple [], .tuple [], .tuple [], .tuple [], .tuple [], .tuple [], .tuple [], .tuple [], .tuple [], .tuple [], .tuple [], .tuple [], .tuple []], []⟩) (e := .normal) (ob := [(.int .i64 (((a.map encQ).length : Nat) : Int) : AV) = (.int .i64 (a.length : Int) : AV),
        (.int .i64 (((b.map encQ).length : Nat) : Int) : AV) = (.int .i64 (b.length : Int) : AV),
        (.bool ((a.length : Int) != (b.length : Int)) : AV) = (.bool true : AV)]) (by kernel_rfl) ⟨len_map, len_map, (nT q1), trivial⟩ ?_
    refine seq_n ?_
    refine Ok.evf (by kernel_rfl) 400 [.d, .d] [4] 0 (st' := ⟨[.any, .any, .any, .any, .bool false, .any, .any, .any, .any, .any, .any, .any, .any, .any, .any, .any, .any, .any, .any, .any, .any, .any, .any, .any, .any, .any], []⟩) (e := .ret) (ob := []) (by kernel_rfl) trivial ?_
    refine seq_r ?_
    exact ⟨.inr rfl, finF_of (ob := [(false : Bool) = decide (a = b)]) (by kernel_rfl) ⟨(by first | (rw [decide_eq_false (fun h : a = b => by subst h; omega)]; done) | (rw [decide_eq_true (list_all (by omega) (fun n hn => hp n (by omega)))]; done) | (rw [decide_eq_false (fun h : a = b => by subst h; exact absurd rfl ‹¬ _›)])), trivial⟩⟩

theorem od_made {L : List Rq} (hL : ∀ x ∈ L, BdW x) (hn : L.length < 1000000) : FnF Try.prog 10 true [.list (L.map encW)] (.list ((madeF L).map encQ)) := by
  refine fn_walkF Try.func10 (by kernel_rfl) (by kernel_rfl) (by kernel_rfl) (st := ⟨[.list (L.map encW), .tuple [], .tuple [], .tuple [], .tuple [], .tuple [], .tuple [], .tuple [], .tuple [], .tuple [], .tuple [], .tuple [], .tuple [], .tuple [], .tuple [], .tuple [], .tuple [], .tuple [], .tuple [], .tuple [], .tuple [], .tuple [], .tuple [], .tuple [], .tuple [], .tuple [], .tuple [], .tuple [], .tuple [], .tuple [], .tuple [], .tuple [], .tuple [], .tuple [], .tuple [], .tuple [], .tuple [], .tuple [], .tuple [], .tuple [], .tuple [], .tuple [], .tuple [], .tuple [], .tuple [], .tuple [], .tuple [], .tuple [], .tuple [], .tuple [], .tuple [], .tuple [], .tuple [], .tuple [], .tuple [], .tuple [], .tuple [], .tuple [], .tuple [], .tuple [], .tuple [], .tuple [], .tuple []], []⟩) rfl ?_
  refine Ok.seqP [] (by kernel_rfl) ?_
  refine Ok.evf (by kernel_rfl) 400 [.d] [0, 2, 3, 4, 5, 6, 7, 8, 9, 10, 11, 12, 13, 14, 15, 16, 17, 18, 19, 20, 21, 22, 23, 24, 25, 26, 27, 28, 29, 30, 31, 32, 33, 34, 35, 36, 37, 38, 39, 40, 41, 42, 43, 44, 45, 46, 47, 48, 49, 50, 51, 52, 53, 54, 55, 56, 57, 58, 59, 60, 61, 62] 0 (st' := ⟨[.list (L.map encW), .any, .nilslice, .tuple [], .tuple [], .tuple [], .tuple [], .tuple [], .tuple [], .tuple [], .tuple [], .tuple [], .tuple [], .tuple [], .tuple [], .tuple [], .tuple [], .tuple [], .tuple [], .tuple [], .tuple [], .tuple [], .tuple [], .tuple [], .tuple [], .tuple [], .tuple [], .tuple [], .tuple [], .tuple [], .tuple [], .tuple [], .tuple [], .tuple [], .tuple [], .tuple [], .tuple [], .tuple [], .tuple [], .tuple [], .tuple [], .tuple [], .tuple [], .tuple [], .tuple [], .tuple [], .tuple [], .tuple [], .tuple [], .tuple [], .tuple [], .tuple [], .tuple [], .tuple [], .tuple [], .tuple [], .tuple [], .tuple [], .tuple [], .tuple [], .tuple [], .tuple [], .tuple []], []⟩) (e := .normal) (ob := []) (by kernel_rfl) trivial ?_
  refine seq_n ?_
  refine Ok.seqP [true] (by kernel_rfl) ?_
  refine Ok.evf (by kernel_rfl) 400 [.d, .d] [0, 2, 3, 4, 5, 6, 8, 9, 10, 11, 12, 13, 14, 15, 16, 17, 18, 19, 20, 21, 22, 23, 24, 25, 26, 27, 28, 29, 30, 31, 32, 33, 34, 35, 36, 37, 38, 39, 40, 41, 42, 43, 44, 45, 46, 47, 48, 49, 50, 51, 52, 53, 54, 55, 56, 57, 58, 59, 60, 61, 62] 1 (st' := ⟨[.list (L.map encW), .any, .nilslice, .slice 0 0 0 0, .tuple [], .tuple [], .tuple [], .any, .tuple [], .tuple [], .tuple [], .tuple [], .tuple [], .tuple [], .tuple [], .tuple [], .tuple [], .tuple [], .tuple [], .tuple [], .tuple [], .tuple [], .tuple [], .tuple [], .tuple [], .tuple [], .tuple [], .tuple [], .tuple [], .tuple [], .tuple [], .tuple [], .tuple [], .tuple [], .tuple [], .tuple [], .tuple [], .tuple [], .tuple [], .tuple [], .tuple [], .tuple [], .tuple [], .tuple [], .tuple [], .tuple [], .tuple [], .tuple [], .tuple [], .tuple [], .tuple [], .tuple [], .tuple [], .tuple [], .tuple [], .tuple [], .tuple [], .tuple [], .tuple [], .tuple [], .tuple [], .tuple [], .tuple []], [.row 3 [] 0]⟩) (e := .normal) (ob := [∀ e ∈ ([] : List AV), belowV 1 e = true]) (by kernel_rfl) ⟨(by simp [belowV, idsOf, idsL, encQ, encW]), trivial⟩ ?_
  refine seq_n ?_
  refine Ok.seqP [true, true] (by kernel_rfl) ?_
  refine Ok.seqP [true, true, false] (by kernel_rfl) ?_
  refine Ok.evf (by kernel_rfl) 400 [.d] [0, 2, 3, 4, 62] 1 (st' := ⟨[.list (L.map encW), .any, .nilslice, .slice 0 0 0 0, .int .i64 1, .any, .any, .any, .any, .any, .any, .any, .any, .any, .any, .any, .any, .any, .any, .any, .any, .any, .any, .any, .any, .any, .any, .any, .any, .any, .any, .any, .any, .any, .any, .any, .any, .any, .any, .any, .any, .any, .any, .any, .any, .any, .any, .any, .any, .any, .any, .any, .any, .any, .any, .any, .any, .any, .any, .any, .any, .any, .tuple []], [.row 3 [] 0]⟩) (e := .normal) (ob := [∀ e ∈ ([] : List AV), belowV 1 e = true]) (by kernel_rfl) ⟨(by simp [belowV, idsOf, idsL, encQ, encW]), trivial⟩ ?_
  refine seq_n ?_
  refine Ok.blockP [true, true, false, true] 0 (by kernel_rfl) ?_
  refine Ok.loopB [true, true, false, true, false] (by kernel_rfl) (fun m_ s_ => ∃ (n : Nat), (n ≤ 14) ∧ ((madeN L n).length ≤ 14) ∧ m_ = 14 - n ∧ s_ = ⟨[.list (L.map encW), .any, .nilslice, .slice 0 0 ((madeN L n).length) 0, .int .i64 (((n : Nat) : Int) + 1), .any, .any, .any, .any, .any, .any, .any, .any, .any, .any, .any, .any, .any, .any, .any, .any, .any, .any, .any, .any, .any, .any, .any, .any, .any, .any, .any, .any, .any, .any, .any, .any, .any, .any, .any, .any, .any, .any, .any, .any, .any, .any, .any, .any, .any, .any, .any, .any, .any, .any, .any, .any, .any, .any, .any, .any, .any, .tuple []], [.row 3 ((madeN L n).map encQ) 0]⟩) (14 - 0) (⟨0, (by omega), (by simp [madeN]), rfl, rfl⟩) ?_
  rintro m_ s_ ⟨n, hi, hml, rfl, rfl⟩
  refine Ok.seqP [true, true, false, true, false, false] (by kernel_rfl) ?_
  refine Ok.seqP [true, true, false, true, false, false, false] (by kernel_rfl) ?_
  by_cases q1 : (((n : Nat) : Int) + 1) ≤ 14
  · refine Ok.evf (by kernel_rfl) 400 [.d, .v (.bool true)] [0, 2, 3, 4, 5, 6, 9, 10, 11, 12, 13, 14, 15, 16, 17, 18, 19, 20, 21, 22, 23, 24, 25, 26, 27, 28, 29, 30, 31, 32, 33, 34, 35, 36, 37, 38, 39, 40, 41, 42, 43, 44, 45, 46, 47, 48, 49, 50, 51, 52, 53, 54, 55, 56, 57, 58, 59, 60, 61, 62] 1 (st' := ⟨[.list (L.map encW), .any, .nilslice, .slice 0 0 ((madeN L n).length) 0, .int .i64 (((n : Nat) : Int) + 1), .any, .any, .any, .any, .bool true, .any, .any, .any, .any, .any, .any, .any, .any, .any, .any, .any, .any, .any, .any, .any, .any, .any, .any, .any, .any, .any, .any, .any, .any, .any, .any, .any, .any, .any, .any, .any, .any, .any, .any, .any, .any, .any, .any, .any, .any, .any, .any, .any, .any, .any, .any, .any, .any, .any, .any, .any, .any, .tuple []], [.row 3 ((madeN L n).map encQ) 0]⟩) (e := .normal) (ob := [∀ e ∈ ((madeN L n).map encQ : List AV), belowV 1 e = true,
        (.bool (decide ((((n : Nat) : Int) + 1) ≤ 14)) : AV) = (.bool true : AV)]) (by kernel_rfl) ⟨below_ids (ids_map (fun _ => rfl) _), (bT q1), trivial⟩ ?_
    refine seq_n ?_
    refine Ok.evf (by kernel_rfl) 400 [.d] [0, 2, 3, 4, 5, 6, 10, 11, 12, 13, 14, 15, 16, 17, 18, 19, 20, 21, 22, 23, 24, 25, 26, 27, 28, 29, 30, 31, 32, 33, 34, 35, 36, 37, 38, 39, 40, 41, 42, 43, 44, 45, 46, 47, 48, 49, 50, 51, 52, 53, 54, 55, 56, 57, 58, 59, 60, 61, 62] 1 (st' := ⟨[.list (L.map encW), .any, .nilslice, .slice 0 0 ((madeN L n).length) 0, .int .i64 (((n : Nat) : Int) + 1), .any, .any, .any, .any, .any, .any, .any, .any, .any, .any, .any, .any, .any, .any, .any, .any, .any, .any, .any, .any, .any, .any, .any, .any, .any, .any, .any, .any, .any, .any, .any, .any, .any, .any, .any, .any, .any, .any, .any, .any, .any, .any, .any, .any, .any, .any, .any, .any, .any, .any, .any, .any, .any, .any, .any, .any, .any, .tuple []], [.row 3 ((madeN L n).map encQ) 0]⟩) (e := .normal) (ob := [∀ e ∈ ((madeN L n).map encQ : List AV), belowV 1 e = true]) (by kernel_rfl) ⟨below_ids (ids_map (fun _ => rfl) _), trivial⟩ ?_
    refine seq_n ?_
    refine Ok.seqP [true, true, false, true, false, false, true] (by kernel_rfl) ?_
    refine Ok.blockP [true, true, false, true, false, false, true, false] 1 (by kernel_rfl) ?_
    refine Ok.seqP [true, true, false, true, false, false, true, false, false] (by kernel_rfl) ?_
    refine Ok.evf (by kernel_rfl) 400 [.d] [0, 2, 3, 4, 5, 10, 11, 62] 1 (st' := ⟨[.list (L.map encW), .any, .nilslice, .slice 0 0 ((madeN L n).length) 0, .int .i64 (((n : Nat) : Int) + 1), .int .i64 0, .any, .any, .any, .any, .any, .any, .any, .any, .any, .any, .any, .any, .any, .any, .any, .any, .any, .any, .any, .any, .any, .any, .any, .any, .any, .any, .any, .any, .any, .any, .any, .any, .any, .any, .any, .any, .any, .any, .any, .any, .any, .any, .any, .any, .any, .any, .any, .any, .any, .any, .any, .any, .any, .any, .any, .any, .tuple []], [.row 3 ((madeN L n).map encQ) 0]⟩) (e := .normal) (ob := [∀ e ∈ ((madeN L n).map encQ : List AV), belowV 1 e = true]) (by kernel_rfl) ⟨below_ids (ids_map (fun _ => rfl) _), trivial⟩ ?_
    refine seq_n ?_
    refine Ok.blockP [true, true, false, true, false, false, true, false, false, true] 2 (by kernel_rfl) ?_
    refine Ok.loopB [true, true, false, true, false, false, true, false, false, true, false] (by kernel_rfl) (fun m_ s_ => ∃ (i : Nat), (i ≤ L.length) ∧ (∀ j, j < i → ¬ 1 + (L.getD j w0).kind % 14 = (n : Int) + 1) ∧ m_ = L.length - i ∧ s_ = ⟨[.list (L.map encW), .any, .nilslice, .slice 0 0 ((madeN L n).length) 0, .int .i64 (((n : Nat) : Int) + 1), .int .i64 ((i : Nat) : Int), .any, .any, .any, .any, .any, .any, .any, .any, .any, .any, .any, .any, .any, .any, .any, .any, .any, .any, .any, .any, .any, .any, .any, .any, .any, .any, .any, .any, .any, .any, .any, .any, .any, .any, .any, .any, .any, .any, .any, .any, .any, .any, .any, .any, .any, .any, .any, .any, .any, .any, .any, .any, .any, .any, .any, .any, .tuple []], [.row 3 ((madeN L n).map encQ) 0]⟩) (L.length - 0) (⟨0, (by omega), fun j hj => by omega, rfl, rfl⟩) ?_
    rintro m_ s_ ⟨i, hj, hno, rfl, rfl⟩
    have hW : (0 ≤ (L.getD i w0).kind ∧ (L.getD i w0).kind ≤ 255) ∧ (0 ≤ (L.getD i w0).far ∧ (L.getD i w0).far ≤ 255) ∧ (0 ≤ (L.getD i w0).right ∧ (L.getD i w0).right ≤ 65535) ∧ 0 ≤ (L.getD i w0).wrong ∧ (L.getD i w0).wrong ≤ 65535 := bdW_get hL i
    refine Ok.seqP [true, true, false, true, false, false, true, false, false, true, false, false] (by kernel_rfl) ?_
    refine Ok.seqP [true, true, false, true, false, false, true, false, false, true, false, false, false] (by kernel_rfl) ?_
    by_cases q2 : ((i : Nat) : Int) < (L.length : Int)
    · refine Ok.evf (by kernel_rfl) 400 [.d, .d, .v (.int .i64 (L.length : Int)), .v (.bool true)] [0, 2, 3, 4, 5, 6, 10, 11, 15, 16, 17, 18, 19, 20, 21, 22, 23, 24, 25, 26, 27, 28, 29, 30, 31, 32, 33, 34, 35, 36, 37, 38, 39, 40, 41, 42, 43, 44, 45, 46, 47, 48, 49, 50, 51, 52, 53, 54, 55, 56, 57, 58, 59, 60, 61, 62] 1 (st' := ⟨[.list (L.map encW), .any, .nilslice, .slice 0 0 ((madeN L n).length) 0, .int .i64 (((n : Nat) : Int) + 1), .int .i64 ((i : Nat) : Int), .any, .any, .any, .any, .any, .any, .any, .any, .any, .bool true, .any, .any, .any, .any, .any, .any, .any, .any, .any, .any, .any, .any, .any, .any, .any, .any, .any, .any, .any, .any, .any, .any, .any, .any, .any, .any, .any, .any, .any, .any, .any, .any, .any, .any, .any, .any, .any, .any, .any, .any, .any, .any, .any, .any, .any, .any, .tuple []], [.row 3 ((madeN L n).map encQ) 0]⟩) (e := .normal) (ob := [∀ e ∈ ((madeN L n).map encQ : List AV), belowV 1 e = true,
        (.int .i64 (((L.map encW).length : Nat) : Int) : AV) = (.int .i64 (L.length : Int) : AV),
        (.bool (decide (((i : Nat) : Int) < (L.length : Int))) : AV) = (.bool true : AV)]) (by kernel_rfl) ⟨below_ids (ids_map (fun _ => rfl) _), len_map, (bT q2), trivial⟩ ?_
      refine seq_n ?_
      refine Ok.evf (by kernel_rfl) 400 [.d] [0, 2, 3, 4, 5, 6, 10, 11, 16, 17, 18, 19, 20, 21, 22, 23, 24, 25, 26, 27, 28, 29, 30, 31, 32, 33, 34, 35, 36, 37, 38, 39, 40, 41, 42, 43, 44, 45, 46, 47, 48, 49, 50, 51, 52, 53, 54, 55, 56, 57, 58, 59, 60, 61, 62] 1 (st' := ⟨[.list (L.map encW), .any, .nilslice, .slice 0 0 ((madeN L n).length) 0, .int .i64 (((n : Nat) : Int) + 1), .int .i64 ((i : Nat) : Int), .any, .any, .any, .any, .any, .any, .any, .any, .any, .any, .any, .any, .any, .any, .any, .any, .any, .any, .any, .any, .any, .any, .any, .any, .any, .any, .any, .any, .any, .any, .any, .any, .any, .any, .any, .any, .any, .any, .any, .any, .any, .any, .any, .any, .any, .any, .any, .any, .any, .any, .any, .any, .any, .any, .any, .any, .tuple []], [.row 3 ((madeN L n).map encQ) 0]⟩) (e := .normal) (ob := [∀ e ∈ ((madeN L n).map encQ : List AV), belowV 1 e = true]) (by kernel_rfl) ⟨below_ids (ids_map (fun _ => rfl) _), trivial⟩ ?_
      refine seq_n ?_
      refine Ok.seqP [true, true, false, true, false, false, true, false, false, true, false, false, true] (by kernel_rfl) ?_
      refine Ok.blockP [true, true, false, true, false, false, true, false, false, true, false, false, true, false] 3 (by kernel_rfl) ?_
      refine Ok.seqP [true, true, false, true, false, false, true, false, false, true, false, false, true, false, false] (by kernel_rfl) ?_
      refine Ok.seqP [true, true, false, true, false, false, true, false, false, true, false, false, true, false, false, false] (by kernel_rfl) ?_
      by_cases q3 : (1 + (((L.getD i w0).kind) % 14)) = (((n : Nat) : Int) + 1)
      · refine Ok.evf (by kernel_rfl) 400 [.d, .d, .e (encW (L.getD i w0)), .d, .d, .v (.int .u8 (((L.getD i w0).kind) % 14)), .v (.int .i64 (((L.getD i w0).kind) % 14)), .v (.int .i64 (1 + (((L.getD i w0).kind) % 14))), .d, .v (.bool false)] [0, 2, 3, 4, 5, 6, 10, 11, 16, 17, 27, 28, 29, 30, 31, 32, 33, 34, 35, 36, 37, 38, 39, 40, 41, 42, 43, 44, 45, 46, 47, 48, 49, 50, 51, 52, 53, 54, 55, 56, 57, 58, 59, 60, 61, 62] 1 (st' := ⟨[.list (L.map encW), .any, .nilslice, .slice 0 0 ((madeN L n).length) 0, .int .i64 (((n : Nat) : Int) + 1), .int .i64 ((i : Nat) : Int), .any, .any, .any, .any, .any, .any, .any, .any, .any, .any, .any, .any, .any, .any, .any, .any, .any, .any, .any, .any, .any, .bool false, .any, .any, .any, .any, .any, .any, .any, .any, .any, .any, .any, .any, .any, .any, .any, .any, .any, .any, .any, .any, .any, .any, .any, .any, .any, .any, .any, .any, .any, .any, .any, .any, .any, .any, .tuple []], [.row 3 ((madeN L n).map encQ) 0]⟩) (e := .normal) (ob := [∀ e ∈ ((madeN L n).map encQ : List AV), belowV 1 e = true,
        0 ≤ ((i : Nat) : Int),
        (L.map encW)[((i : Nat) : Int).toNat]? = some (encW (L.getD i w0)),
        (.int .u8 (((L.getD i w0).kind).tmod 14) : AV) = (.int .u8 (((L.getD i w0).kind) % 14) : AV),
        (14 : Int) ≠ 0,
        (.int .i64 (IntKind.wrap .i64 (((L.getD i w0).kind) % 14)) : AV) = (.int .i64 (((L.getD i w0).kind) % 14) : AV),
        (.int .i64 (IntKind.wrap .i64 (1 + (((L.getD i w0).kind) % 14))) : AV) = (.int .i64 (1 + (((L.getD i w0).kind) % 14)) : AV),
        (.bool ((1 + (((L.getD i w0).kind) % 14)) != (((n : Nat) : Int) + 1)) : AV) = (.bool false : AV)]) (by kernel_rfl) ⟨below_ids (ids_map (fun _ => rfl) _), (by omega), elemN (by omega) (by omega), iI (Int.tmod_eq_emod_of_nonneg (by omega)), (by decide), iW (w64 (by omega) (by omega)), iW (w64 (by omega) (by omega)), (nF q3), trivial⟩ ?_
        refine seq_n ?_
        refine Ok.evf (by kernel_rfl) 400 [.d] [0, 2, 3, 4, 5, 6, 10, 11, 16, 17, 28, 29, 30, 31, 32, 33, 34, 35, 36, 37, 38, 39, 40, 41, 42, 43, 44, 45, 46, 47, 48, 49, 50, 51, 52, 53, 54, 55, 56, 57, 58, 59, 60, 61, 62] 1 (st' := ⟨[.list (L.map encW), .any, .nilslice, .slice 0 0 ((madeN L n).length) 0, .int .i64 (((n : Nat) : Int) + 1), .int .i64 ((i : Nat) : Int), .any, .any, .any, .any, .any, .any, .any, .any, .any, .any, .any, .any, .any, .any, .any, .any, .any, .any, .any, .any, .any, .any, .any, .any, .any, .any, .any, .any, .any, .any, .any, .any, .any, .any, .any, .any, .any, .any, .any, .any, .any, .any, .any, .any, .any, .any, .any, .any, .any, .any, .any, .any, .any, .any, .any, .any, .tuple []], [.row 3 ((madeN L n).map encQ) 0]⟩) (e := .normal) (ob := [∀ e ∈ ((madeN L n).map encQ : List AV), belowV 1 e = true]) (by kernel_rfl) ⟨below_ids (ids_map (fun _ => rfl) _), trivial⟩ ?_
        refine seq_n ?_
        refine Ok.seqP [true, true, false, true, false, false, true, false, false, true, false, false, true, false, false, true] (by kernel_rfl) ?_
        refine Ok.evf (by kernel_rfl) 400 [.d, .d, .d, .e (encW (L.getD i w0)), .d, .d, .v (.int .i64 ((L.getD i w0).right)), .d, .d, .e (encW (L.getD i w0)), .d, .d, .v (.int .i64 ((L.getD i w0).wrong)), .d, .d, .d] [0, 2, 3, 4, 5, 6, 10, 11, 16, 17, 42, 43, 44, 45, 46, 47, 48, 49, 50, 51, 52, 53, 54, 55, 56, 57, 58, 59, 60, 61, 62] 2 (st' := ⟨[.list (L.map encW), .any, .nilslice, .slice 0 0 ((madeN L n).length) 0, .int .i64 (((n : Nat) : Int) + 1), .int .i64 ((i : Nat) : Int), .ptr 1 0, .any, .any, .any, .any, .any, .any, .any, .any, .any, .any, .any, .any, .any, .any, .any, .any, .any, .any, .any, .any, .any, .any, .any, .any, .any, .any, .any, .any, .any, .any, .any, .any, .any, .any, .any, .any, .any, .any, .any, .any, .any, .any, .any, .any, .any, .any, .any, .any, .any, .any, .any, .any, .any, .any, .any, .tuple []], [.row 3 ((madeN L n).map encQ) 0, .cells [.int .i64 (((n : Nat) : Int) + 1), .int .i64 ((L.getD i w0).right), .int .i64 ((L.getD i w0).wrong)]]⟩) (e := .normal) (ob := [∀ e ∈ ((madeN L n).map encQ : List AV), belowV 2 e = true,
        0 ≤ ((i : Nat) : Int),
        (L.map encW)[((i : Nat) : Int).toNat]? = some (encW (L.getD i w0)),
        (.int .i64 (IntKind.wrap .i64 ((L.getD i w0).right)) : AV) = (.int .i64 ((L.getD i w0).right) : AV),
        0 ≤ ((i : Nat) : Int),
        (L.map encW)[((i : Nat) : Int).toNat]? = some (encW (L.getD i w0)),
        (.int .i64 (IntKind.wrap .i64 ((L.getD i w0).wrong)) : AV) = (.int .i64 ((L.getD i w0).wrong) : AV)]) (by kernel_rfl) ⟨below_ids (ids_map (fun _ => rfl) _), (by omega), elemN (by omega) (by omega), iW (w64 (by omega) (by omega)), (by omega), elemN (by omega) (by omega), iW (w64 (by omega) (by omega)), trivial⟩ ?_
        refine seq_n ?_
        refine Ok.seqP [true, true, false, true, false, false, true, false, false, true, false, false, true, false, false, true, true] (by kernel_rfl) ?_
        refine Ok.seqP [true, true, false, true, false, false, true, false, false, true, false, false, true, false, false, true, true, false] (by kernel_rfl) ?_
        by_cases q4 : (((L.getD i w0).far) % 8) = 7
        · refine Ok.evf (by kernel_rfl) 400 [.d, .d, .e (encW (L.getD i w0)), .d, .d, .v (.int .u8 (((L.getD i w0).far) % 8)), .v (.bool true)] [0, 2, 3, 4, 5, 6, 10, 11, 16, 17, 48, 49, 50, 51, 52, 53, 54, 55, 56, 57, 58, 59, 60, 61, 62] 2 (st' := ⟨[.list (L.map encW), .any, .nilslice, .slice 0 0 ((madeN L n).length) 0, .int .i64 (((n : Nat) : Int) + 1), .int .i64 ((i : Nat) : Int), .ptr 1 0, .any, .any, .any, .any, .any, .any, .any, .any, .any, .any, .any, .any, .any, .any, .any, .any, .any, .any, .any, .any, .any, .any, .any, .any, .any, .any, .any, .any, .any, .any, .any, .any, .any, .any, .any, .any, .any, .any, .any, .any, .any, .bool true, .any, .any, .any, .any, .any, .any, .any, .any, .any, .any, .any, .any, .any, .tuple []], [.row 3 ((madeN L n).map encQ) 0, .cells [.int .i64 (((n : Nat) : Int) + 1), .int .i64 ((L.getD i w0).right), .int .i64 ((L.getD i w0).wrong)]]⟩) (e := .normal) (ob := [∀ e ∈ ((madeN L n).map encQ : List AV), belowV 2 e = true,
        0 ≤ ((i : Nat) : Int),
        (L.map encW)[((i : Nat) : Int).toNat]? = some (encW (L.getD i w0)),
        (.int .u8 (((L.getD i w0).far).tmod 8) : AV) = (.int .u8 (((L.getD i w0).far) % 8) : AV),
        (8 : Int) ≠ 0,
        (.bool ((((L.getD i w0).far) % 8) == 7) : AV) = (.bool true : AV)]) (by kernel_rfl) ⟨below_ids (ids_map (fun _ => rfl) _), (by omega), elemN (by omega) (by omega), iI (Int.tmod_eq_emod_of_nonneg (by omega)), (by decide), (eT q4), trivial⟩ ?_
          refine seq_n ?_
          refine Ok.evf (by kernel_rfl) 400 [.d, .d, .d, .e (encW (L.getD i w0)), .d, .d, .v (.int .u16 (((L.getD i w0).right) % 3)), .v (.int .i64 (((L.getD i w0).right) % 3)), .v (.int .i64 (1073741824 - (((L.getD i w0).right) % 3))), .d, .d] [0, 2, 3, 4, 5, 6, 10, 11, 16, 17, 58, 59, 60, 61, 62] 2 (st' := ⟨[.list (L.map encW), .any, .nilslice, .slice 0 0 ((madeN L n).length) 0, .int .i64 (((n : Nat) : Int) + 1), .int .i64 ((i : Nat) : Int), .ptr 1 0, .any, .any, .any, .any, .any, .any, .any, .any, .any, .any, .any, .any, .any, .any, .any, .any, .any, .any, .any, .any, .any, .any, .any, .any, .any, .any, .any, .any, .any, .any, .any, .any, .any, .any, .any, .any, .any, .any, .any, .any, .any, .any, .any, .any, .any, .any, .any, .any, .any, .any, .any, .any, .any, .any, .any, .tuple []], [.row 3 ((madeN L n).map encQ) 0, .cells [.int .i64 (((n : Nat) : Int) + 1), .int .i64 (1073741824 - (((L.getD i w0).right) % 3)), .int .i64 ((L.getD i w0).wrong)]]⟩) (e := .normal) (ob := [∀ e ∈ ((madeN L n).map encQ : List AV), belowV 2 e = true,
        0 ≤ ((i : Nat) : Int),
        (L.map encW)[((i : Nat) : Int).toNat]? = some (encW (L.getD i w0)),
        (.int .u16 (((L.getD i w0).right).tmod 3) : AV) = (.int .u16 (((L.getD i w0).right) % 3) : AV),
        (3 : Int) ≠ 0,
        (.int .i64 (IntKind.wrap .i64 (((L.getD i w0).right) % 3)) : AV) = (.int .i64 (((L.getD i w0).right) % 3) : AV),
        (.int .i64 (IntKind.wrap .i64 (1073741824 - (((L.getD i w0).right) % 3))) : AV) = (.int .i64 (1073741824 - (((L.getD i w0).right) % 3)) : AV)]) (by kernel_rfl) ⟨below_ids (ids_map (fun _ => rfl) _), (by omega), elemN (by omega) (by omega), iI (Int.tmod_eq_emod_of_nonneg (by omega)), (by decide), iW (w64 (by omega) (by omega)), iW (w64 (by omega) (by omega)), trivial⟩ ?_
          refine seq_n ?_
          refine Ok.evf (by kernel_rfl) 400 [.d, .d, .d, .r ((madeN L n ++ [(⟨((n : Nat) : Int) + 1, 1073741824 - (((L.getD i w0).right) % 3), (L.getD i w0).wrong⟩ : An)]).map encQ), .d] [0, 2, 3, 4, 10, 11, 62] 2 (st' := ⟨[.list (L.map encW), .any, .nilslice, .slice 0 0 ((madeN L n).length + 1) 1, .int .i64 (((n : Nat) : Int) + 1), .any, .any, .any, .any, .any, .any, .any, .any, .any, .any, .any, .any, .any, .any, .any, .any, .any, .any, .any, .any, .any, .any, .any, .any, .any, .any, .any, .any, .any, .any, .any, .any, .any, .any, .any, .any, .any, .any, .any, .any, .any, .any, .any, .any, .any, .any, .any, .any, .any, .any, .any, .any, .any, .any, .any, .any, .any, .tuple []], [.row 3 ((madeN L n ++ [(⟨((n : Nat) : Int) + 1, 1073741824 - (((L.getD i w0).right) % 3), (L.getD i w0).wrong⟩ : An)]).map encQ) 1, .cells [.int .i64 (((n : Nat) : Int) + 1), .int .i64 (1073741824 - (((L.getD i w0).right) % 3)), .int .i64 ((L.getD i w0).wrong)]]⟩) (e := (.exit 2)) (ob := [∀ e ∈ ((madeN L n ++ [(⟨((n : Nat) : Int) + 1, 1073741824 - (((L.getD i w0).right) % 3), (L.getD i w0).wrong⟩ : An)]).map encQ : List AV), belowV 2 e = true,
        (((madeN L n).map encQ).take ((madeN L n).length) ++ [.agg [.int .i64 (((n : Nat) : Int) + 1), .int .i64 (1073741824 - (((L.getD i w0).right) % 3)), .int .i64 ((L.getD i w0).wrong)]] : List AV) = (madeN L n ++ [(⟨((n : Nat) : Int) + 1, 1073741824 - (((L.getD i w0).right) % 3), (L.getD i w0).wrong⟩ : An)]).map encQ,
        (2 * ((madeN L n).length + ([.agg [.int .i64 (((n : Nat) : Int) + 1), .int .i64 (1073741824 - (((L.getD i w0).right) % 3)), .int .i64 ((L.getD i w0).wrong)]] : List AV).length) + 1024) * 24 ≤ 2 ^ 48,
        ∀ y ∈ ([.agg [.int .i64 (((n : Nat) : Int) + 1), .int .i64 (1073741824 - (((L.getD i w0).right) % 3)), .int .i64 ((L.getD i w0).wrong)]] : List AV), (cellsOf y).length = 3 ∧ ∀ c ∈ cellsOf y, isCell c = true]) (by kernel_rfl) ⟨below_ids (ids_map (fun _ => rfl) _), rowApp (x := (⟨((n : Nat) : Int) + 1, 1073741824 - (((L.getD i w0).right) % 3), (L.getD i w0).wrong⟩ : An)) rfl, (by simp; omega), (by simp [cellsOf, isCell, encQ, encW]), trivial⟩ ?_
          refine blkQ_on rfl ?_
          refine seq_e ?_
          refine loopg_e ?_
          refine blkQ_here ?_
          refine blk_n ?_
          refine seq_n ?_
          refine Ok.evf (by kernel_rfl) 400 [.d, .v (.int .i64 ((((n : Nat) : Int) + 1) + 1)), .d] [0, 2, 3, 4, 62] 2 (st' := ⟨[.list (L.map encW), .any, .nilslice, .slice 0 0 ((madeN L n).length + 1) 1, .int .i64 ((((n : Nat) : Int) + 1) + 1), .any, .any, .any, .any, .any, .any, .any, .any, .any, .any, .any, .any, .any, .any, .any, .any, .any, .any, .any, .any, .any, .any, .any, .any, .any, .any, .any, .any, .any, .any, .any, .any, .any, .any, .any, .any, .any, .any, .any, .any, .any, .any, .any, .any, .any, .any, .any, .any, .any, .any, .any, .any, .any, .any, .any, .any, .any, .tuple []], [.row 3 ((madeN L n ++ [(⟨((n : Nat) : Int) + 1, 1073741824 - (((L.getD i w0).right) % 3), (L.getD i w0).wrong⟩ : An)]).map encQ) 1, .cells [.int .i64 (((n : Nat) : Int) + 1), .int .i64 (1073741824 - (((L.getD i w0).right) % 3)), .int .i64 ((L.getD i w0).wrong)]]⟩) (e := .normal) (ob := [∀ e ∈ ((madeN L n ++ [(⟨((n : Nat) : Int) + 1, 1073741824 - (((L.getD i w0).right) % 3), (L.getD i w0).wrong⟩ : An)]).map encQ : List AV), belowV 2 e = true,
        (.int .i64 (IntKind.wrap .i64 ((((n : Nat) : Int) + 1) + 1)) : AV) = (.int .i64 ((((n : Nat) : Int) + 1) + 1) : AV)]) (by kernel_rfl) ⟨below_ids (ids_map (fun _ => rfl) _), iW (w64 (by omega) (by omega)), trivial⟩ ?_
          exact loop_g [0, 2, 3, 4, 62] 1 (14 - (n + 1)) (by omega) rfl (s' := ⟨[.list (L.map encW), .any, .nilslice, .slice 0 0 ((madeN L n).length + 1) 0, .int .i64 ((((n : Nat) : Int) + 1) + 1), .any, .any, .any, .any, .any, .any, .any, .any, .any, .any, .any, .any, .any, .any, .any, .any, .any, .any, .any, .any, .any, .any, .any, .any, .any, .any, .any, .any, .any, .any, .any, .any, .any, .any, .any, .any, .any, .any, .any, .any, .any, .any, .any, .any, .any, .any, .any, .any, .any, .any, .any, .any, .any, .any, .any, .any, .any, .tuple []], [.row 3 ((madeN L n ++ [(⟨((n : Nat) : Int) + 1, 1073741824 - (((L.getD i w0).right) % 3), (L.getD i w0).wrong⟩ : An)]).map encQ) 0]⟩) (ob := [∀ e ∈ ((madeN L n ++ [(⟨((n : Nat) : Int) + 1, 1073741824 - (((L.getD i w0).right) % 3), (L.getD i w0).wrong⟩ : An)]).map encQ : List AV), idsOf e = []]) (by kernel_rfl) ⟨ids_map (fun _ => rfl) _, trivial⟩ (⟨(n + 1), (by omega), made_len hL (by omega), rfl, by first | (rw [made_no (fun j hj => hno j (by omega))]; rfl) | (rw [made_yes (by omega) hno (by omega) rfl, List.length_append, mk_far (by omega)]; rfl) | (rw [made_yes (by omega) hno (by omega) rfl, List.length_append, mk_near (by omega)]; rfl)⟩)
        · refine Ok.evf (by kernel_rfl) 400 [.d, .d, .e (encW (L.getD i w0)), .d, .d, .v (.int .u8 (((L.getD i w0).far) % 8)), .v (.bool false)] [0, 2, 3, 4, 5, 6, 10, 11, 16, 17, 48, 49, 50, 51, 52, 53, 54, 55, 56, 57, 58, 59, 60, 61, 62] 2 (st' := ⟨[.list (L.map encW), .any, .nilslice, .slice 0 0 ((madeN L n).length) 0, .int .i64 (((n : Nat) : Int) + 1), .int .i64 ((i : Nat) : Int), .ptr 1 0, .any, .any, .any, .any, .any, .any, .any, .any, .any, .any, .any, .any, .any, .any, .any, .any, .any, .any, .any, .any, .any, .any, .any, .any, .any, .any, .any, .any, .any, .any, .any, .any, .any, .any, .any, .any, .any, .any, .any, .any, .any, .bool false, .any, .any, .any, .any, .any, .any, .any, .any, .any, .any, .any, .any, .any, .tuple []], [.row 3 ((madeN L n).map encQ) 0, .cells [.int .i64 (((n : Nat) : Int) + 1), .int .i64 ((L.getD i w0).right), .int .i64 ((L.getD i w0).wrong)]]⟩) (e := .normal) (ob := [∀ e ∈ ((madeN L n).map encQ : List AV), belowV 2 e = true,
        0 ≤ ((i : Nat) : Int),
        (L.map encW)[((i : Nat) : Int).toNat]? = some (encW (L.getD i w0)),
        (.int .u8 (((L.getD i w0).far).tmod 8) : AV) = (.int .u8 (((L.getD i w0).far) % 8) : AV),
        (8 : Int) ≠ 0,
        (.bool ((((L.getD i w0).far) % 8) == 7) : AV) = (.bool false : AV)]) (by kernel_rfl) ⟨below_ids (ids_map (fun _ => rfl) _), (by omega), elemN (by omega) (by omega), iI (Int.tmod_eq_emod_of_nonneg (by omega)), (by decide), (eF q4), trivial⟩ ?_
          refine seq_n ?_
          refine Ok.evf (by kernel_rfl) 400 [.d] [0, 2, 3, 4, 5, 6, 10, 11, 16, 17, 58, 59, 60, 61, 62] 2 (st' := ⟨[.list (L.map encW), .any, .nilslice, .slice 0 0 ((madeN L n).length) 0, .int .i64 (((n : Nat) : Int) + 1), .int .i64 ((i : Nat) : Int), .ptr 1 0, .any, .any, .any, .any, .any, .any, .any, .any, .any, .any, .any, .any, .any, .any, .any, .any, .any, .any, .any, .any, .any, .any, .any, .any, .any, .any, .any, .any, .any, .any, .any, .any, .any, .any, .any, .any, .any, .any, .any, .any, .any, .any, .any, .any, .any, .any, .any, .any, .any, .any, .any, .any, .any, .any, .any, .tuple []], [.row 3 ((madeN L n).map encQ) 0, .cells [.int .i64 (((n : Nat) : Int) + 1), .int .i64 ((L.getD i w0).right), .int .i64 ((L.getD i w0).wrong)]]⟩) (e := .normal) (ob := [∀ e ∈ ((madeN L n).map encQ : List AV), belowV 2 e = true]) (by kernel_rfl) ⟨below_ids (ids_map (fun _ => rfl) _), trivial⟩ ?_
          refine seq_n ?_
          refine Ok.evf (by kernel_rfl) 400 [.d, .d, .d, .r ((madeN L n ++ [(⟨((n : Nat) : Int) + 1, (L.getD i w0).right, (L.getD i w0).wrong⟩ : An)]).map encQ), .d] [0, 2, 3, 4, 10, 11, 62] 2 (st' := ⟨[.list (L.map encW), .any, .nilslice, .slice 0 0 ((madeN L n).length + 1) 1, .int .i64 (((n : Nat) : Int) + 1), .any, .any, .any, .any, .any, .any, .any, .any, .any, .any, .any, .any, .any, .any, .any, .any, .any, .any, .any, .any, .any, .any, .any, .any, .any, .any, .any, .any, .any, .any, .any, .any, .any, .any, .any, .any, .any, .any, .any, .any, .any, .any, .any, .any, .any, .any, .any, .any, .any, .any, .any, .any, .any, .any, .any, .any, .any, .tuple []], [.row 3 ((madeN L n ++ [(⟨((n : Nat) : Int) + 1, (L.getD i w0).right, (L.getD i w0).wrong⟩ : An)]).map encQ) 1, .cells [.int .i64 (((n : Nat) : Int) + 1), .int .i64 ((L.getD i w0).right), .int .i64 ((L.getD i w0).wrong)]]⟩) (e := (.exit 2)) (ob := [∀ e ∈ ((madeN L n ++ [(⟨((n : Nat) : Int) + 1, (L.getD i w0).right, (L.getD i w0).wrong⟩ : An)]).map encQ : List AV), belowV 2 e = true,
        (((madeN L n).map encQ).take ((madeN L n).length) ++ [.agg [.int .i64 (((n : Nat) : Int) + 1), .int .i64 ((L.getD i w0).right), .int .i64 ((L.getD i w0).wrong)]] : List AV) = (madeN L n ++ [(⟨((n : Nat) : Int) + 1, (L.getD i w0).right, (L.getD i w0).wrong⟩ : An)]).map encQ,
        (2 * ((madeN L n).length + ([.agg [.int .i64 (((n : Nat) : Int) + 1), .int .i64 ((L.getD i w0).right), .int .i64 ((L.getD i w0).wrong)]] : List AV).length) + 1024) * 24 ≤ 2 ^ 48,
        ∀ y ∈ ([.agg [.int .i64 (((n : Nat) : Int) + 1), .int .i64 ((L.getD i w0).right), .int .i64 ((L.getD i w0).wrong)]] : List AV), (cellsOf y).length = 3 ∧ ∀ c ∈ cellsOf y, isCell c = true]) (by kernel_rfl) ⟨below_ids (ids_map (fun _ => rfl) _), rowApp (x := (⟨((n : Nat) : Int) + 1, (L.getD i w0).right, (L.getD i w0).wrong⟩ : An)) rfl, (by simp; omega), (by simp [cellsOf, isCell, encQ, encW]), trivial⟩ ?_
          refine blkQ_on rfl ?_
          refine seq_e ?_
          refine loopg_e ?_
          refine blkQ_here ?_
          refine blk_n ?_
          refine seq_n ?_
          refine Ok.evf (by kernel_rfl) 400 [.d, .v (.int .i64 ((((n : Nat) : Int) + 1) + 1)), .d] [0, 2, 3, 4, 62] 2 (st' := ⟨[.list (L.map encW), .any, .nilslice, .slice 0 0 ((madeN L n).length + 1) 1, .int .i64 ((((n : Nat) : Int) + 1) + 1), .any, .any, .any, .any, .any, .any, .any, .any, .any, .any, .any, .any, .any, .any, .any, .any, .any, .any, .any, .any, .any, .any, .any, .any, .any, .any, .any, .any, .any, .any, .any, .any, .any, .any, .any, .any, .any, .any, .any, .any, .any, .any, .any, .any, .any, .any, .any, .any, .any, .any, .any, .any, .any, .any, .any, .any, .any, .tuple []], [.row 3 ((madeN L n ++ [(⟨((n : Nat) : Int) + 1, (L.getD i w0).right, (L.getD i w0).wrong⟩ : An)]).map encQ) 1, .cells [.int .i64 (((n : Nat) : Int) + 1), .int .i64 ((L.getD i w0).right), .int .i64 ((L.getD i w0).wrong)]]⟩) (e := .normal) (ob := [∀ e ∈ ((madeN L n ++ [(⟨((n : Nat) : Int) + 1, (L.getD i w0).right, (L.getD i w0).wrong⟩ : An)]).map encQ : List AV), belowV 2 e = true,
        (.int .i64 (IntKind.wrap .i64 ((((n : Nat) : Int) + 1) + 1)) : AV) = (.int .i64 ((((n : Nat) : Int) + 1) + 1) : AV)]) (by kernel_rfl) ⟨below_ids (ids_map (fun _ => rfl) _), iW (w64 (by omega) (by omega)), trivial⟩ ?_
          exact loop_g [0, 2, 3, 4, 62] 1 (14 - (n + 1)) (by omega) rfl (s' := ⟨[.list (L.map encW), .any, .nilslice, .slice 0 0 ((madeN L n).length + 1) 0, .int .i64 ((((n : Nat) : Int) + 1) + 1), .any, .any, .any, .any, .any, .any, .any, .any, .any, .any, .any, .any, .any, .any, .any, .any, .any, .any, .any, .any, .any, .any, .any, .any, .any, .any, .any, .any, .any, .any, .any, .any, .any, .any, .any, .any, .any, .any, .any, .any, .any, .any, .any, .any, .any, .any, .any, .any, .any, .any, .any, .any, .any, .any, .any, .any, .any, .tuple []], [.row 3 ((madeN L n ++ [(⟨((n : Nat) : Int) + 1, (L.getD i w0).right, (L.getD i w0).wrong⟩ : An)]).map encQ) 0]⟩) (ob := [∀ e ∈ ((madeN L n ++ [(⟨((n : Nat) : Int) + 1, (L.getD i w0).right, (L.getD i w0).wrong⟩ : An)]).map encQ : List AV), idsOf e = []]) (by kernel_rfl) ⟨ids_map (fun _ => rfl) _, trivial⟩ (⟨(n + 1), (by omega), made_len hL (by omega), rfl, by first | (rw [made_no (fun j hj => hno j (by omega))]; rfl) | (rw [made_yes (by omega) hno (by omega) rfl, List.length_append, mk_far (by omega)]; rfl) | (rw [made_yes (by omega) hno (by omega) rfl, List.length_append, mk_near (by omega)]; rfl)⟩)
      · refine Ok.evf (by kernel_rfl) 400 [.d, .d, .e (encW (L.getD i w0)), .d, .d, .v (.int .u8 (((L.getD i w0).kind) % 14)), .v (.int .i64 (((L.getD i w0).kind) % 14)), .v (.int .i64 (1 + (((L.getD i w0).kind) % 14))), .d, .v (.bool true)] [0, 2, 3, 4, 5, 6, 10, 11, 16, 17, 27, 28, 29, 30, 31, 32, 33, 34, 35, 36, 37, 38, 39, 40, 41, 42, 43, 44, 45, 46, 47, 48, 49, 50, 51, 52, 53, 54, 55, 56, 57, 58, 59, 60, 61, 62] 1 (st' := ⟨[.list (L.map encW), .any, .nilslice, .slice 0 0 ((madeN L n).length) 0, .int .i64 (((n : Nat) : Int) + 1), .int .i64 ((i : Nat) : Int), .any, .any, .any, .any, .any, .any, .any, .any, .any, .any, .any, .any, .any, .any, .any, .any, .any, .any, .any, .any, .any, .bool true, .any, .any, .any, .any, .any, .any, .any, .any, .any, .any, .any, .any, .any, .any, .any, .any, .any, .any, .any, .any, .any, .any, .any, .any, .any, .any, .any, .any, .any, .any, .any, .any, .any, .any, .tuple []], [.row 3 ((madeN L n).map encQ) 0]⟩) (e := .normal) (ob := [∀ e ∈ ((madeN L n).map encQ : List AV), belowV 1 e = true,
        0 ≤ ((i : Nat) : Int),
        (L.map encW)[((i : Nat) : Int).toNat]? = some (encW (L.getD i w0)),
        (.int .u8 (((L.getD i w0).kind).tmod 14) : AV) = (.int .u8 (((L.getD i w0).kind) % 14) : AV),
        (14 : Int) ≠ 0,
        (.int .i64 (IntKind.wrap .i64 (((L.getD i w0).kind) % 14)) : AV) = (.int .i64 (((L.getD i w0).kind) % 14) : AV),
        (.int .i64 (IntKind.wrap .i64 (1 + (((L.getD i w0).kind) % 14))) : AV) = (.int .i64 (1 + (((L.getD i w0).kind) % 14)) : AV),
        (.bool ((1 + (((L.getD i w0).kind) % 14)) != (((n : Nat) : Int) + 1)) : AV) = (.bool true : AV)]) (by kernel_rfl) ⟨below_ids (ids_map (fun _ => rfl) _), (by omega), elemN (by omega) (by omega), iI (Int.tmod_eq_emod_of_nonneg (by omega)), (by decide), iW (w64 (by omega) (by omega)), iW (w64 (by omega) (by omega)), (nT q3), trivial⟩ ?_
        refine seq_n ?_
        refine Ok.evf (by kernel_rfl) 400 [.d] [0, 2, 3, 4, 5, 10, 11, 16, 17, 62] 1 (st' := ⟨[.list (L.map encW), .any, .nilslice, .slice 0 0 ((madeN L n).length) 0, .int .i64 (((n : Nat) : Int) + 1), .int .i64 ((i : Nat) : Int), .any, .any, .any, .any, .any, .any, .any, .any, .any, .any, .any, .any, .any, .any, .any, .any, .any, .any, .any, .any, .any, .any, .any, .any, .any, .any, .any, .any, .any, .any, .any, .any, .any, .any, .any, .any, .any, .any, .any, .any, .any, .any, .any, .any, .any, .any, .any, .any, .any, .any, .any, .any, .any, .any, .any, .any, .tuple []], [.row 3 ((madeN L n).map encQ) 0]⟩) (e := (.exit 3)) (ob := [∀ e ∈ ((madeN L n).map encQ : List AV), belowV 1 e = true]) (by kernel_rfl) ⟨below_ids (ids_map (fun _ => rfl) _), trivial⟩ ?_
        refine seq_e ?_
        refine blkQ_here ?_
        refine seq_n ?_
        refine Ok.evf (by kernel_rfl) 400 [.d, .v (.int .i64 (((i : Nat) : Int) + 1)), .d] [0, 2, 3, 4, 5, 10, 11, 62] 1 (st' := ⟨[.list (L.map encW), .any, .nilslice, .slice 0 0 ((madeN L n).length) 0, .int .i64 (((n : Nat) : Int) + 1), .int .i64 (((i : Nat) : Int) + 1), .any, .any, .any, .any, .any, .any, .any, .any, .any, .any, .any, .any, .any, .any, .any, .any, .any, .any, .any, .any, .any, .any, .any, .any, .any, .any, .any, .any, .any, .any, .any, .any, .any, .any, .any, .any, .any, .any, .any, .any, .any, .any, .any, .any, .any, .any, .any, .any, .any, .any, .any, .any, .any, .any, .any, .any, .tuple []], [.row 3 ((madeN L n).map encQ) 0]⟩) (e := .normal) (ob := [∀ e ∈ ((madeN L n).map encQ : List AV), belowV 1 e = true,
        (.int .i64 (IntKind.wrap .i64 (((i : Nat) : Int) + 1)) : AV) = (.int .i64 (((i : Nat) : Int) + 1) : AV)]) (by kernel_rfl) ⟨below_ids (ids_map (fun _ => rfl) _), iW (w64 (by omega) (by omega)), trivial⟩ ?_
        exact loop_g [0, 2, 3, 4, 5, 10, 11, 62] 1 (L.length - (i + 1)) (by omega) rfl (s' := ⟨[.list (L.map encW), .any, .nilslice, .slice 0 0 ((madeN L n).length) 0, .int .i64 (((n : Nat) : Int) + 1), .int .i64 (((i : Nat) : Int) + 1), .any, .any, .any, .any, .any, .any, .any, .any, .any, .any, .any, .any, .any, .any, .any, .any, .any, .any, .any, .any, .any, .any, .any, .any, .any, .any, .any, .any, .any, .any, .any, .any, .any, .any, .any, .any, .any, .any, .any, .any, .any, .any, .any, .any, .any, .any, .any, .any, .any, .any, .any, .any, .any, .any, .any, .any, .tuple []], [.row 3 ((madeN L n).map encQ) 0]⟩) (ob := [∀ e ∈ ((madeN L n).map encQ : List AV), idsOf e = []]) (by kernel_rfl) ⟨ids_map (fun _ => rfl) _, trivial⟩ (⟨(i + 1), (by omega), upto_step hno (by omega), rfl, rfl⟩)
    · refine Ok.evf (by kernel_rfl) 400 [.d, .d, .v (.int .i64 (L.length : Int)), .v (.bool false)] [0, 2, 3, 4, 5, 6, 10, 11, 15, 16, 17, 18, 19, 20, 21, 22, 23, 24, 25, 26, 27, 28, 29, 30, 31, 32, 33, 34, 35, 36, 37, 38, 39, 40, 41, 42, 43, 44, 45, 46, 47, 48, 49, 50, 51, 52, 53, 54, 55, 56, 57, 58, 59, 60, 61, 62] 1 (st' := ⟨[.list (L.map encW), .any, .nilslice, .slice 0 0 ((madeN L n).length) 0, .int .i64 (((n : Nat) : Int) + 1), .int .i64 ((i : Nat) : Int), .any, .any, .any, .any, .any, .any, .any, .any, .any, .bool false, .any, .any, .any, .any, .any, .any, .any, .any, .any, .any, .any, .any, .any, .any, .any, .any, .any, .any, .any, .any, .any, .any, .any, .any, .any, .any, .any, .any, .any, .any, .any, .any, .any, .any, .any, .any, .any, .any, .any, .any, .any, .any, .any, .any, .any, .any, .tuple []], [.row 3 ((madeN L n).map encQ) 0]⟩) (e := .normal) (ob := [∀ e ∈ ((madeN L n).map encQ : List AV), belowV 1 e = true,
        (.int .i64 (((L.map encW).length : Nat) : Int) : AV) = (.int .i64 (L.length : Int) : AV),
        (.bool (decide (((i : Nat) : Int) < (L.length : Int))) : AV) = (.bool false : AV)]) (by kernel_rfl) ⟨below_ids (ids_map (fun _ => rfl) _), len_map, (bF q2), trivial⟩ ?_
      refine seq_n ?_
      refine Ok.evf (by kernel_rfl) 400 [.d] [0, 2, 3, 4, 10, 11, 62] 1 (st' := ⟨[.list (L.map encW), .any, .nilslice, .slice 0 0 ((madeN L n).length) 0, .int .i64 (((n : Nat) : Int) + 1), .any, .any, .any, .any, .any, .any, .any, .any, .any, .any, .any, .any, .any, .any, .any, .any, .any, .any, .any, .any, .any, .any, .any, .any, .any, .any, .any, .any, .any, .any, .any, .any, .any, .any, .any, .any, .any, .any, .any, .any, .any, .any, .any, .any, .any, .any, .any, .any, .any, .any, .any, .any, .any, .any, .any, .any, .any, .tuple []], [.row 3 ((madeN L n).map encQ) 0]⟩) (e := (.exit 2)) (ob := [∀ e ∈ ((madeN L n).map encQ : List AV), belowV 1 e = true]) (by kernel_rfl) ⟨below_ids (ids_map (fun _ => rfl) _), trivial⟩ ?_
      refine seq_e ?_
      refine loopg_e ?_
      refine blkQ_here ?_
      refine blk_n ?_
      refine seq_n ?_
      refine Ok.evf (by kernel_rfl) 400 [.d, .v (.int .i64 ((((n : Nat) : Int) + 1) + 1)), .d] [0, 2, 3, 4, 62] 1 (st' := ⟨[.list (L.map encW), .any, .nilslice, .slice 0 0 ((madeN L n).length) 0, .int .i64 ((((n : Nat) : Int) + 1) + 1), .any, .any, .any, .any, .any, .any, .any, .any, .any, .any, .any, .any, .any, .any, .any, .any, .any, .any, .any, .any, .any, .any, .any, .any, .any, .any, .any, .any, .any, .any, .any, .any, .any, .any, .any, .any, .any, .any, .any, .any, .any, .any, .any, .any, .any, .any, .any, .any, .any, .any, .any, .any, .any, .any, .any, .any, .any, .tuple []], [.row 3 ((madeN L n).map encQ) 0]⟩) (e := .normal) (ob := [∀ e ∈ ((madeN L n).map encQ : List AV), belowV 1 e = true,
        (.int .i64 (IntKind.wrap .i64 ((((n : Nat) : Int) + 1) + 1)) : AV) = (.int .i64 ((((n : Nat) : Int) + 1) + 1) : AV)]) (by kernel_rfl) ⟨below_ids (ids_map (fun _ => rfl) _), iW (w64 (by omega) (by omega)), trivial⟩ ?_
      exact loop_g [0, 2, 3, 4, 62] 1 (14 - (n + 1)) (by omega) rfl (s' := ⟨[.list (L.map encW), .any, .nilslice, .slice 0 0 ((madeN L n).length) 0, .int .i64 ((((n : Nat) : Int) + 1) + 1), .any, .any, .any, .any, .any, .any, .any, .any, .any, .any, .any, .any, .any, .any, .any, .any, .any, .any, .any, .any, .any, .any, .any, .any, .any, .any, .any, .any, .any, .any, .any, .any, .any, .any, .any, .any, .any, .any, .any, .any, .any, .any, .any, .any, .any, .any, .any, .any, .any, .any, .any, .any, .any, .any, .any, .any, .any, .tuple []], [.row 3 ((madeN L n).map encQ) 0]⟩) (ob := [∀ e ∈ ((madeN L n).map encQ : List AV), idsOf e = []]) (by kernel_rfl) ⟨ids_map (fun _ => rfl) _, trivial⟩ (⟨(n + 1), (by omega), made_len hL (by omega), rfl, by first | (rw [made_no (fun j hj => hno j (by omega))]; rfl) | (rw [made_yes (by omega) hno (by omega) rfl, List.length_append, mk_far (by omega)]; rfl) | (rw [made_yes (by omega) hno (by omega) rfl, List.length_append, mk_near (by omega)]; rfl)⟩)
  · refine Ok.evf (by kernel_rfl) 400 [.d, .v (.bool false)] [0, 2, 3, 4, 5, 6, 9, 10, 11, 12, 13, 14, 15, 16, 17, 18, 19, 20, 21, 22, 23, 24, 25, 26, 27, 28, 29, 30, 31, 32, 33, 34, 35, 36, 37, 38, 39, 40, 41, 42, 43, 44, 45, 46, 47, 48, 49, 50, 51, 52, 53, 54, 55, 56, 57, 58, 59, 60, 61, 62] 1 (st' := ⟨[.list (L.map encW), .any, .nilslice, .slice 0 0 ((madeN L n).length) 0, .int .i64 (((n : Nat) : Int) + 1), .any, .any, .any, .any, .bool false, .any, .any, .any, .any, .any, .any, .any, .any, .any, .any, .any, .any, .any, .any, .any, .any, .any, .any, .any, .any, .any, .any, .any, .any, .any, .any, .any, .any, .any, .any, .any, .any, .any, .any, .any, .any, .any, .any, .any, .any, .any, .any, .any, .any, .any, .any, .any, .any, .any, .any, .any, .any, .tuple []], [.row 3 ((madeN L n).map encQ) 0]⟩) (e := .normal) (ob := [∀ e ∈ ((madeN L n).map encQ : List AV), belowV 1 e = true,
        (.bool (decide ((((n : Nat) : Int) + 1) ≤ 14)) : AV) = (.bool false : AV)]) (by kernel_rfl) ⟨below_ids (ids_map (fun _ => rfl) _), (bF q1), trivial⟩ ?_
    refine seq_n ?_
    refine Ok.evf (by kernel_rfl) 400 [.d] [2, 3, 62] 1 (st' := ⟨[.any, .any, .nilslice, .slice 0 0 ((madeN L n).length) 0, .any, .any, .any, .any, .any, .any, .any, .any, .any, .any, .any, .any, .any, .any, .any, .any, .any, .any, .any, .any, .any, .any, .any, .any, .any, .any, .any, .any, .any, .any, .any, .any, .any, .any, .any, .any, .any, .any, .any, .any, .any, .any, .any, .any, .any, .any, .any, .any, .any, .any, .any, .any, .any, .any, .any, .any, .any, .any, .tuple []], [.row 3 ((madeN L n).map encQ) 0]⟩) (e := (.exit 0)) (ob := [∀ e ∈ ((madeN L n).map encQ : List AV), belowV 1 e = true]) (by kernel_rfl) ⟨below_ids (ids_map (fun _ => rfl) _), trivial⟩ ?_
    refine seq_e ?_
    refine loopg_e ?_
    refine blkQ_here ?_
    refine seq_n ?_
    refine Ok.evf (by kernel_rfl) 400 [.d, .d] [2] 1 (st' := ⟨[.any, .any, .slice 0 0 ((madeN L n).length) 0, .any, .any, .any, .any, .any, .any, .any, .any, .any, .any, .any, .any, .any, .any, .any, .any, .any, .any, .any, .any, .any, .any, .any, .any, .any, .any, .any, .any, .any, .any, .any, .any, .any, .any, .any, .any, .any, .any, .any, .any, .any, .any, .any, .any, .any, .any, .any, .any, .any, .any, .any, .any, .any, .any, .any, .any, .any, .any, .any, .any], [.row 3 ((madeN L n).map encQ) 0]⟩) (e := .ret) (ob := [∀ e ∈ ((madeN L n).map encQ : List AV), belowV 1 e = true]) (by kernel_rfl) ⟨below_ids (ids_map (fun _ => rfl) _), trivial⟩ ?_
    exact ⟨.inr rfl, finF_of (ob := [(((madeN L n).map encQ : List AV).drop 0).take ((madeN L n).length) = (madeF L).map encQ,
        ∀ e ∈ ((madeN L n).map encQ : List AV), plainE e]) (by kernel_rfl) ⟨(by first | (rw [rowOut rfl, show n = 14 by omega]; rfl)), pl_map (fun _ => rfl) (fun _ => rfl) _, trivial⟩⟩

end Go.Proofs.Ytlhmionefjopiaa
