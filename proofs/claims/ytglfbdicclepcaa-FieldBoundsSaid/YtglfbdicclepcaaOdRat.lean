/- Fractions of whole numbers -/
import Derived.Test.YtglfbdicclepcaaEvU
import Derived.Test.YtglfbdicclepcaaFdDef
import Derived.Test.YtglfbdicclepcaaProg
set_option linter.unusedVariables false
set_option linter.unusedSimpArgs false
namespace Go.Proofs.Ytglfbdicclepcaa
open Go.RowKit
set_option maxRecDepth 100000

/-- Euclid's step. -/
theorem gcdT_step (x y : Int) : Int.gcd y (x.tmod y) = Int.gcd x y := by
  rw [Int.gcd_comm x y]
  have : x = y * x.tdiv y + x.tmod y := (Int.mul_tdiv_add_tmod x y).symm
  conv => rhs; rw [this]
  rw [Int.add_comm, Int.gcd_add_mul_left_right]
theorem gcdE_step (x y : Int) : Int.gcd y (x % y) = Int.gcd x y := by
  rw [Int.gcd_comm x y]
  have : x = y * (x / y) + x % y := (Int.mul_ediv_add_emod x y).symm
  conv => rhs; rw [this]
  rw [Int.add_comm, Int.gcd_add_mul_left_right]
def gcdF (x : Int) (l : List Int) : Int := l.foldl (fun a b => (Int.gcd a b : Int)) (x.natAbs : Int)
theorem gcdF_step (x : Int) (l : List Int) (n : Nat) (h : n < l.length) : gcdF (Int.gcd x (l.getD n 0)) (l.drop (n + 1)) = gcdF x (l.drop n) := by
  rw [List.drop_eq_getElem_cons h]
  have : l.getD n 0 = l[n] := by simp [List.getD_eq_getElem?_getD, List.getElem?_eq_getElem h]
  rw [this]
  unfold gcdF
  rw [List.foldl_cons]
  have h2 : (((Int.gcd x l[n] : Nat) : Int).natAbs : Int) = (Int.gcd (x.natAbs : Int) l[n] : Int) := by simp [Int.gcd]
  rw [h2]
theorem gcdF_abs (x : Int) (l : List Int) : gcdF (x.natAbs : Int) l = gcdF x l := by simp [gcdF]
theorem emod_bd (x m : Int) : 0 < m → 0 ≤ x % m ∧ x % m < m := fun h => ⟨Int.emod_nonneg _ (by omega), Int.emod_lt_of_pos _ h⟩
theorem gcd_bd (n d : Int) (hn : 0 ≤ n) (hd : 0 < d) : 0 < (Int.gcd n d : Int) ∧ (Int.gcd n d : Int) ≤ d ∧ 0 ≤ n / (Int.gcd n d : Int) ∧ n / (Int.gcd n d : Int) ≤ n ∧ 0 ≤ d / (Int.gcd n d : Int) ∧ d / (Int.gcd n d : Int) ≤ d := by
  have h1 : (Int.gcd n d : Int) ∣ d := Int.gcd_dvd_right ..
  have h2 := Int.le_of_dvd hd h1
  have h3 : 0 < Int.gcd n d := Int.gcd_pos_of_ne_zero_right _ (by omega)
  have h4 := Int.ediv_nonneg hn (show 0 ≤ (Int.gcd n d : Int) by omega)
  have h5 := Int.ediv_nonneg (show 0 ≤ d by omega) (show 0 ≤ (Int.gcd n d : Int) by omega)
  have h6 := Int.ediv_le_self (Int.gcd n d : Int) hn
  have h7 := Int.ediv_le_self (Int.gcd n d : Int) (show 0 ≤ d by omega)
  exact ⟨by omega, h2, h4, h6, h5, h7⟩
theorem od_abs {n : Int} (h : 0 ≤ n) (h2 : n ≤ 9223372036854775807) : FnF Try.prog 59 true [.int .i64 n] (.int .u64 n) := by
  exact fn_e2 Try.func59 400 [.d, .d, .v (.bool false), .d, .d, .v (.int .u64 n), .d] (ob := [(.bool (decide (n < 0)) : AV) = (.bool false : AV), (.int .u64 (IntKind.wrap .u64 (n)) : AV) = (.int .u64 n : AV), (n : Int) = n]) ⟨(bF (by omega)), iW (wu64 (by omega) (by omega)), rfl, trivial⟩

theorem od_gcdF {L : List Int} (hL : 0 < L.length) (hl : ∀ n, n < L.length → 0 ≤ L.getD n 0 ∧ L.getD n 0 ≤ 18446744073709551615) (hn : L.length < 1000) : FnF Try.prog 63 true [.list (L.map encU)] (.int .u64 (gcdF (L.getD 0 0) (L.drop 1))) := by
  have hd : (L.drop 1).length < 1000 := by simp; omega
  have hl2 : ∀ n, n < (L.drop 1).length → 0 ≤ (L.drop 1).getD n 0 ∧ (L.drop 1).getD n 0 ≤ 18446744073709551615 := fun n hn => by have := hl (n + 1) (by simp at hn; omega); simpa [List.getD_eq_getElem?_getD, Nat.add_comm] using this
  refine fn_walkF Try.func63 (by kernel_rfl) (by kernel_rfl) (by kernel_rfl) (st := (stX (.tuple []) 24 [(0, .list (L.map encU))] [])) rfl ?_
  refine Ok.sq [] ?_
  refine Ok.ev2 400 [.d] [0, 2, 3] 0 (st' := (stX .any 24 [(0, .list (L.map encU)), (2, .int .u64 0), (3, .tuple [])] [])) (e := .normal) (ob := []) trivial ?_
  refine seq_n ?_
  refine Ok.sq [true] ?_
  refine Ok.ev2 400 [.d, .e (encU (L.getD 0 0)), .d, .d] [0, 2, 3, 10, 11, 12] 0 (st' := (stX .any 24 [(0, .list (L.map encU)), (2, .int .u64 0), (3, .int .u64 (L.getD 0 0))] [])) (e := .normal) (ob := [0 ≤ (0 : Int), (L.map encU)[0]? = some (encU (L.getD 0 0))]) ⟨(by decide), elemN (by omega) (by omega), trivial⟩ ?_
  refine seq_n ?_
  refine Ok.sq [true, true] ?_
  refine Ok.sq [true, true, false] ?_
  refine Ok.ev2 400 [.d, .v (.list ((L.drop 1).map encU)), .v (iV ((L.drop 1).length : Int)), .d] [2, 3, 10, 11, 12] 0 (st' := (stX .any 24 [(2, .int .u64 0), (3, .int .u64 (L.getD 0 0)), (10, .list ((L.drop 1).map encU)), (11, iV ((L.drop 1).length : Int)), (12, iV 0)] [])) (e := .normal) (ob := [(.list (((L.map encU).take (L.map encU).length).drop 1) : AV) = (.list ((L.drop 1).map encU) : AV), 0 ≤ (1 : Int) ∧ (1 : Int) ≤ ((L.map encU).length : Int) ∧ ((L.map encU).length : Int) ≤ ((L.map encU : List AV).length : Int), ∀ x ∈ (L.map encU : List AV), (cellsOf x).length = 1, (iV ((((L.drop 1).map encU).length : Nat) : Int) : AV) = (iV ((L.drop 1).length : Int) : AV)]) ⟨slice_map0, (by first | (simp; done) | omega | (simp; omega)), cells_map (f := encU) (fun _ => rfl) _, len_map, trivial⟩ ?_
  refine seq_n ?_
  refine Ok.bk [true, true, false, true] 0 ?_
  refine Ok.loopB [true, true, false, true, false] (by kernel_rfl) (fun m_ s_ => ∃ (x : Int) (i : Nat), (i ≤ (L.drop 1).length) ∧ (0 ≤ x) ∧ (x ≤ 18446744073709551615) ∧ (gcdF x ((L.drop 1).drop i) = gcdF (L.getD 0 0) (L.drop 1)) ∧ m_ = (L.drop 1).length - i ∧ s_ = (stX .any 24 [(2, .int .u64 0), (3, .int .u64 x), (10, .list ((L.drop 1).map encU)), (11, iV ((L.drop 1).length : Int)), (12, iV ((i : Nat) : Int))] [])) ((L.drop 1).length - 0) (⟨(L.getD 0 0), 0, (by omega), (hl 0 (by omega)).1, (hl 0 (by omega)).2, rfl, rfl, rfl⟩) ?_
  rintro m_ s_ ⟨x, i, hi, hb, hb2, he, rfl, rfl⟩
  refine Ok.sq [true, true, false, true, false, false] ?_
  by_cases q1 : ((i : Nat) : Int) < ((L.drop 1).length : Int)
  · refine Ok.ev2 400 [.v (.bool true)] [2, 3, 10, 11, 12, 13] 0 (st' := (stX .any 24 [(2, .int .u64 0), (3, .int .u64 x), (10, .list ((L.drop 1).map encU)), (11, iV ((L.drop 1).length : Int)), (12, iV ((i : Nat) : Int)), (13, .bool true)] [])) (e := .normal) (ob := [_]) ⟨(bT q1), trivial⟩ ?_
    refine seq_n ?_
    refine Ok.sq [true, true, false, true, false, false, true] ?_
    refine Ok.ev2 400 [.d] [2, 3, 5, 10, 11, 12] 0 (st' := (stX .any 24 [(2, .int .u64 0), (3, .int .u64 x), (10, .list ((L.drop 1).map encU)), (11, iV ((L.drop 1).length : Int)), (12, iV ((i : Nat) : Int))] [])) (e := .normal) (ob := []) trivial ?_
    refine seq_n ?_
    refine Ok.sq [true, true, false, true, false, false, true, true] ?_
    refine Ok.bk [true, true, false, true, false, false, true, true, false] 1 ?_
    refine Ok.sq [true, true, false, true, false, false, true, true, false, false] ?_
    refine Ok.ev2 400 [.e (encU ((L.drop 1).getD i 0)), .d, .d] [2, 3, 5, 10, 11, 12] 0 (st' := (stX .any 24 [(2, .int .u64 0), (3, .int .u64 x), (5, .int .u64 ((L.drop 1).getD i 0)), (10, .list ((L.drop 1).map encU)), (11, iV ((L.drop 1).length : Int)), (12, iV ((i : Nat) : Int))] [])) (e := .normal) (ob := [0 ≤ ((i : Nat) : Int), ((L.drop 1).map encU)[((i : Nat) : Int).toNat]? = some (encU ((L.drop 1).getD i 0))]) ⟨(by omega), elemN (by omega) (by omega), trivial⟩ ?_
    refine seq_n ?_
    refine Ok.bk [true, true, false, true, false, false, true, true, false, false, true] 2 ?_
    refine Ok.loopB [true, true, false, true, false, false, true, true, false, false, true, false] (by kernel_rfl) (fun m_ s_ => ∃ (u : Int) (v : Int), (0 ≤ u) ∧ (u ≤ 18446744073709551615) ∧ (0 ≤ v) ∧ (v ≤ 18446744073709551615) ∧ (Int.gcd u v = Int.gcd x ((L.drop 1).getD i 0)) ∧ m_ = (v).natAbs ∧ s_ = (stX .any 24 [(2, .int .u64 0), (3, .int .u64 u), (5, .int .u64 v), (10, .list ((L.drop 1).map encU)), (11, iV ((L.drop 1).length : Int)), (12, iV ((i : Nat) : Int))] [])) (((L.drop 1).getD i 0).natAbs) (⟨x, ((L.drop 1).getD i 0), (by omega), (by omega), (hl2 i (by omega)).1, (hl2 i (by omega)).2, rfl, rfl, rfl⟩) ?_
    rintro m_ s_ ⟨u, v, hu, hu2, hv, hv2, hg, rfl, rfl⟩
    refine Ok.sq [true, true, false, true, false, false, true, true, false, false, true, false, false] ?_
    refine Ok.sq [true, true, false, true, false, false, true, true, false, false, true, false, false, false] ?_
    by_cases q2 : v > 0
    · refine Ok.ev2 400 [.d, .v (.bool true)] [2, 3, 5, 10, 11, 12, 17] 0 (st' := (stX .any 24 [(2, .int .u64 0), (3, .int .u64 u), (5, .int .u64 v), (10, .list ((L.drop 1).map encU)), (11, iV ((L.drop 1).length : Int)), (12, iV ((i : Nat) : Int)), (17, .bool true)] [])) (e := .normal) (ob := [_]) ⟨(bT q2), trivial⟩ ?_
      refine seq_n ?_
      refine Ok.ev2 400 [.d] [2, 3, 5, 10, 11, 12] 0 (st' := (stX .any 24 [(2, .int .u64 0), (3, .int .u64 u), (5, .int .u64 v), (10, .list ((L.drop 1).map encU)), (11, iV ((L.drop 1).length : Int)), (12, iV ((i : Nat) : Int))] [])) (e := .normal) (ob := []) trivial ?_
      refine seq_n ?_
      refine Ok.ev2 400 [.d, .d, .d, .v (.int .u64 (u % v)), .d, .d] [2, 3, 5, 10, 11, 12] 0 (st' := (stX .any 24 [(2, .int .u64 0), (3, .int .u64 v), (5, .int .u64 (u % v)), (10, .list ((L.drop 1).map encU)), (11, iV ((L.drop 1).length : Int)), (12, iV ((i : Nat) : Int))] [])) (e := .normal) (ob := [(.int .u64 (u.tmod v) : AV) = (.int .u64 (u % v) : AV), v ≠ 0]) ⟨iI (Int.tmod_eq_emod_of_nonneg (by omega)), (by omega), trivial⟩ ?_
      exact loop_g [2, 3, 5, 10, 11, 12] 0 ((u % v).natAbs) (by have := emod_bd u v (by omega); omega) rfl (s' := (stX .any 24 [(2, .int .u64 0), (3, .int .u64 v), (5, .int .u64 (u % v)), (10, .list ((L.drop 1).map encU)), (11, iV ((L.drop 1).length : Int)), (12, iV ((i : Nat) : Int))] [])) (ob := []) (by kernel_rfl) trivial (⟨v, (u % v), (by omega), (by omega), (emod_bd u v (by omega)).1, (by have := (emod_bd u v (by omega)).2; omega), (by rw [gcdE_step]; exact hg), rfl, rfl⟩)
    · refine Ok.ev2 400 [.d, .v (.bool false)] [2, 3, 5, 10, 11, 12, 17] 0 (st' := (stX .any 24 [(2, .int .u64 0), (3, .int .u64 u), (5, .int .u64 v), (10, .list ((L.drop 1).map encU)), (11, iV ((L.drop 1).length : Int)), (12, iV ((i : Nat) : Int)), (17, .bool false)] [])) (e := .normal) (ob := [_]) ⟨(bF q2), trivial⟩ ?_
      refine seq_n ?_
      refine Ok.ev2 400 [.d] [2, 3, 10, 11, 12] 0 (st' := (stX .any 24 [(2, .int .u64 0), (3, .int .u64 u), (10, .list ((L.drop 1).map encU)), (11, iV ((L.drop 1).length : Int)), (12, iV ((i : Nat) : Int))] [])) (e := (.exit 2)) (ob := []) trivial ?_
      refine seq_e ?_
      refine loopg_e ?_
      refine blkQ_here ?_
      refine blk_n ?_
      refine seq_n ?_
      refine Ok.ev2 400 [.v (iV (((i : Nat) : Int) + 1)), .d] [2, 3, 10, 11, 12] 0 (st' := (stX .any 24 [(2, .int .u64 0), (3, .int .u64 u), (10, .list ((L.drop 1).map encU)), (11, iV ((L.drop 1).length : Int)), (12, iV (((i : Nat) : Int) + 1))] [])) (e := .normal) (ob := [(iV (IntKind.wrap .i64 (((i : Nat) : Int) + 1)) : AV) = (iV (((i : Nat) : Int) + 1) : AV)]) ⟨iW (w64 (by omega) (by omega)), trivial⟩ ?_
      exact loop_g [2, 3, 10, 11, 12] 0 ((L.drop 1).length - (i + 1)) (by omega) rfl (s' := (stX .any 24 [(2, .int .u64 0), (3, .int .u64 u), (10, .list ((L.drop 1).map encU)), (11, iV ((L.drop 1).length : Int)), (12, iV (((i : Nat) : Int) + 1))] [])) (ob := []) (by kernel_rfl) trivial (⟨u, (i + 1), (by omega), (by omega), (by omega), (by rw [← he, ← gcdF_step x (L.drop 1) i (by omega), ← hg, show v = 0 by omega, Int.gcd_zero_right]; exact (gcdF_abs _ _).symm), rfl, rfl⟩)
  · refine Ok.ev2 400 [.v (.bool false)] [2, 3, 10, 11, 12, 13] 0 (st' := (stX .any 24 [(2, .int .u64 0), (3, .int .u64 x), (10, .list ((L.drop 1).map encU)), (11, iV ((L.drop 1).length : Int)), (12, iV ((i : Nat) : Int)), (13, .bool false)] [])) (e := .normal) (ob := [_]) ⟨(bF q1), trivial⟩ ?_
    refine seq_n ?_
    refine Ok.sq [true, true, false, true, false, false, true] ?_
    refine Ok.ev2 400 [.d] [2, 3] 0 (st' := (stX .any 24 [(2, .int .u64 0), (3, .int .u64 x)] [])) (e := (.exit 0)) (ob := []) trivial ?_
    refine seq_e ?_
    refine loopg_e ?_
    refine blkQ_here ?_
    refine seq_n ?_
    refine Ok.ev2 400 [.d, .d] [2] 0 (st' := (stX .any 24 [(2, .int .u64 x)] [])) (e := .ret) (ob := []) trivial ?_
    exact ⟨.inr rfl, finF_of (ob := [(x : Int) = gcdF (L.getD 0 0) (L.drop 1)]) (by kernel_rfl) ⟨(by rw [← he, show i = (L.drop 1).length by omega, List.drop_length]; simp [gcdF]; omega), trivial⟩⟩

theorem od_gcd {a b : Int} (h1 : 0 ≤ a ∧ a ≤ 18446744073709551615) (h2 : 0 ≤ b ∧ b ≤ 18446744073709551615) : FnF Try.prog 63 true [.list [.int .u64 a, .int .u64 b]] (.int .u64 (Int.gcd a b : Int)) := by
  have h := od_gcdF (L := [a, b]) (by simp) (fun n hn => ?_) (by simp)
  · have e : gcdF ([a, b].getD 0 0) ([a, b].drop 1) = (Int.gcd a b : Int) := by simp [gcdF, Int.gcd]
    rw [e] at h; exact h
  · have : n = 0 ∨ n = 1 := by simp at hn; omega
    rcases this with rfl | rfl
    · exact h1
    · exact h2

theorem od_number {w : Int} (h : 0 ≤ w) (h2 : w ≤ 4611686018427387904) : FnF Try.prog 77 true [.agg [.bool false, .int .u64 0, .int .u64 w]] (.tuple [.int .i64 w, .bool true]) := by
  exact fn_e2 Try.func77 400 [.d, .d, .d, .d, .d, .d, .d, .d, .d, .v (.bool false), .d, .d, .d, .d, .d, .d, .d, .v (iV w), .d, .d] (ob := [(.bool (decide (w > 4611686018427387904)) : AV) = (.bool false : AV), (iV (IntKind.wrap .i64 (w)) : AV) = (iV w : AV), (w : Int) = w, (true : Bool) = true]) ⟨(bF (by omega)), iW (w64 (by omega) (by omega)), rfl, rfl, trivial⟩

theorem od65_1   : FnF Try.prog 65 true [] (.tuple [.agg [.int .i64 0, .int .i64 1], .int .i64 0]) :=
  fn_e2 Try.func65 400 [.d, .d, .d, .d, .d] (ob := [(0 : Int) = 0, (1 : Int) = 1, (0 : Int) = 0]) ⟨rfl, rfl, rfl, trivial⟩

theorem od67_2 {n d : Int} (h1 : 0 ≤ n) (h2 : n ≤ 4611686018427387904) (h3 : 0 < d) (h4 : d ≤ 4611686018427387904) (hg : 0 < (Int.gcd n d : Int) ∧ (Int.gcd n d : Int) ≤ d ∧ 0 ≤ n / (Int.gcd n d : Int) ∧ n / (Int.gcd n d : Int) ≤ n ∧ 0 ≤ d / (Int.gcd n d : Int) ∧ d / (Int.gcd n d : Int) ≤ d) (q1 : ¬ (n = 0)) : FnF Try.prog 67 true [.agg [.bool false, .int .u64 0, .int .u64 (n / (Int.gcd n d : Int))], .agg [.bool false, .int .u64 0, .int .u64 (d / (Int.gcd n d : Int))]] (.tuple [.agg [.int .i64 (n / (Int.gcd n d : Int)), .int .i64 (d / (Int.gcd n d : Int))], .int .i64 0]) :=
  fn_e2 Try.func67 400 [.d, .d, .d, .d, .d, .f true (.tuple [iV (n / (Int.gcd n d : Int)), .bool true]), .d, .d, .d, .d, .d, .d, .f true (.tuple [iV (d / (Int.gcd n d : Int)), .bool true]), .d, .d, .d, .d, .d, .d, .d, .d, .d, .d, .d, .d, .d, .d, .d, .d, .d] (ob := [FnF Try.prog 77 true [.agg [.bool false, .int .u64 0, .int .u64 (n / (Int.gcd n d : Int))]] (.tuple [iV (n / (Int.gcd n d : Int)), .bool true]), FnF Try.prog 77 true [.agg [.bool false, .int .u64 0, .int .u64 (d / (Int.gcd n d : Int))]] (.tuple [iV (d / (Int.gcd n d : Int)), .bool true]), (n / (Int.gcd n d : Int) : Int) = n / (Int.gcd n d : Int), (d / (Int.gcd n d : Int) : Int) = d / (Int.gcd n d : Int), (0 : Int) = 0]) ⟨od_number (by omega) (by omega), od_number (by omega) (by omega), rfl, rfl, rfl, trivial⟩

theorem od_new {n d : Int} (h1 : 0 ≤ n) (h2 : n ≤ 4611686018427387904) (h3 : 0 < d) (h4 : d ≤ 4611686018427387904) : FnF Try.prog 53 true [.int .i64 n, .int .i64 d] (.tuple [.agg [.int .i64 (n / (Int.gcd n d : Int)), .int .i64 (d / (Int.gcd n d : Int))], .int .i64 0]) := by
  have hg : 0 < (Int.gcd n d : Int) ∧ (Int.gcd n d : Int) ≤ d ∧ 0 ≤ n / (Int.gcd n d : Int) ∧ n / (Int.gcd n d : Int) ≤ n ∧ 0 ≤ d / (Int.gcd n d : Int) ∧ d / (Int.gcd n d : Int) ≤ d := gcd_bd n d h1 h3
  by_cases q1 : n = 0
  · refine fn_e2 Try.func53 400 [.d, .d, .d, .v (.bool false), .d, .d, .v (.bool true), .d, .f true (.tuple [.agg [iV 0, iV 1], iV 0]), .d, .d, .d, .d] (ob := [(.bool (d == 0) : AV) = (.bool false : AV), _, _, (0 : Int) = n / (Int.gcd n d : Int), (1 : Int) = d / (Int.gcd n d : Int), (0 : Int) = 0]) ⟨(eF (by omega)), (eT q1), od65_1, ?_, ?_, rfl, trivial⟩ <;> (first | rfl | omega | (rw [show n = 0 from ‹n = 0›]; simp [Int.gcd]; done) | (rw [show n = 0 from ‹n = 0›, Int.gcd_zero_left]; rw [show ((d.natAbs : Nat) : Int) = d by omega]; exact (Int.ediv_self (by omega)).symm))
  · exact fn_e2 Try.func53 400 [.d, .d, .d, .v (.bool false), .d, .d, .v (.bool false), .d, .d, .f true (.int .u64 n), .d, .f true (.int .u64 d), .d, .f true (.int .u64 (Int.gcd n d : Int)), .d, .d, .v (.bool false), .d, .v (.bool false), .v (.bool false), .d, .f true (.int .u64 n), .d, .v (.int .u64 (n / (Int.gcd n d : Int))), .d, .d, .f true (.int .u64 d), .d, .v (.int .u64 (d / (Int.gcd n d : Int))), .d, .f true (.tuple [.agg [iV (n / (Int.gcd n d : Int)), iV (d / (Int.gcd n d : Int))], iV 0]), .d, .d, .d, .d] (ob := [(.bool (d == 0) : AV) = (.bool false : AV), _, FnF Try.prog 59 true [iV n] (.int .u64 n), FnF Try.prog 59 true [iV d] (.int .u64 d), FnF Try.prog 63 true [.list [.int .u64 n, .int .u64 d]] (.int .u64 (Int.gcd n d : Int)), ∀ e ∈ ([.int .u64 n, .int .u64 d] : List AV), idsOf e = [], (.bool (decide (n < 0)) : AV) = (.bool false : AV), (.bool (decide (d < 0)) : AV) = (.bool false : AV), (.bool (!(false == false)) : AV) = (.bool false : AV), FnF Try.prog 59 true [iV n] (.int .u64 n), (.int .u64 (IntKind.wrap .u64 (n.tdiv (Int.gcd n d : Int))) : AV) = (.int .u64 (n / (Int.gcd n d : Int)) : AV), (Int.gcd n d : Int) ≠ 0, FnF Try.prog 59 true [iV d] (.int .u64 d), (.int .u64 (IntKind.wrap .u64 (d.tdiv (Int.gcd n d : Int))) : AV) = (.int .u64 (d / (Int.gcd n d : Int)) : AV), (Int.gcd n d : Int) ≠ 0, FnF Try.prog 67 true [.agg [.bool false, .int .u64 0, .int .u64 (n / (Int.gcd n d : Int))], .agg [.bool false, .int .u64 0, .int .u64 (d / (Int.gcd n d : Int))]] (.tuple [.agg [iV (n / (Int.gcd n d : Int)), iV (d / (Int.gcd n d : Int))], iV 0]), (n / (Int.gcd n d : Int) : Int) = n / (Int.gcd n d : Int), (d / (Int.gcd n d : Int) : Int) = d / (Int.gcd n d : Int), (0 : Int) = 0]) ⟨(eF (by omega)), (eF q1), od_abs (by omega) (by omega), od_abs (by omega) (by omega), od_gcd ⟨by omega, by omega⟩ ⟨by omega, by omega⟩, (by simp [idsOf, idsL]), (bF (by omega)), (bF (by omega)), bneB rfl rfl, od_abs (by omega) (by omega), ediv_wu64 (by omega) (by omega) (by omega), (by omega), od_abs (by omega) (by omega), ediv_wu64 (by omega) (by omega) (by omega), (by omega), (od67_2 h1 h2 h3 h4 hg q1), rfl, rfl, rfl, trivial⟩

end Go.Proofs.Ytglfbdicclepcaa
