/- Contracts of the functions of package span -/
import Derived.Test.YtioiffbnbjalcaaMvWid
import Derived.Test.YtioiffbnbjalcaaEvU
import Derived.Test.YtioiffbnbjalcaaProg
set_option linter.unusedVariables false
set_option linter.unusedSimpArgs false
namespace Go.Proofs.Ytioiffbnbjalcaa
open Go.RowKit
set_option maxRecDepth 100000

abbrev iA (x : Int) : AV := .int .i64 x
abbrev encI (x : Int) : AV := .int .i64 x
def encA (a : Ab) : AV := .agg [.int .i64 a.lo, .int .i64 a.hi, .int .i64 a.m, .int .i64 a.r, .int .i64 a.k]
def ab0 : Ab := ⟨0, 0, 0, 0, 0⟩
/-- Euclid's step. -/
theorem gcdT_step (x y : Int) : Int.gcd y (x.tmod y) = Int.gcd x y := by
  rw [Int.gcd_comm x y]
  have : x = y * x.tdiv y + x.tmod y := (Int.mul_tdiv_add_tmod x y).symm
  conv => rhs; rw [this]
  rw [Int.add_comm, Int.gcd_add_mul_left_right]
theorem tmod_lt (x y : Int) (h : ¬ y = 0) : (x.tmod y).natAbs < y.natAbs := by
  rw [Int.natAbs_tmod]; exact Nat.mod_lt _ (by omega)
theorem tmod_le (x y : Int) : (x.tmod y).natAbs ≤ x.natAbs := by
  rw [Int.natAbs_tmod]; exact Nat.mod_le _ _
def gcdF (x : Int) (l : List Int) : Int := l.foldl (fun a b => (Int.gcd a b : Int)) (x.natAbs : Int)
theorem gcdF_step (x : Int) (l : List Int) (n : Nat) (h : n < l.length) : gcdF (Int.gcd x (l.getD n 0)) (l.drop (n + 1)) = gcdF x (l.drop n) := by
  rw [List.drop_eq_getElem_cons h]
  have : l.getD n 0 = l[n] := by simp [List.getD_eq_getElem?_getD, List.getElem?_eq_getElem h]
  rw [this]
  unfold gcdF
  rw [List.foldl_cons]
  have h2 : (((Int.gcd x l[n] : Nat) : Int).natAbs : Int) = (Int.gcd (x.natAbs : Int) l[n] : Int) := by simp [Int.gcd]
  rw [h2]
theorem gcdF_abs (x : Int) (l : List Int) : gcdF (x.natAbs : Int) l = gcdF x l := by simp [gcdF]
theorem gcdF_is (a : Int) (h : 0 ≤ a) (l : List Int) : gcdF a l = gcdS a l := by
  have key : ∀ (l : List Int) (a : Int), 0 ≤ a → l.foldl (fun a b => (Int.gcd a b : Int)) a = gcdS a l := by
    intro l
    induction l with
    | nil => intro a _; rfl
    | cons b l ih => intro a h; simp only [List.foldl, gcdS]; exact ih _ (by omega)
  unfold gcdF
  rw [show (a.natAbs : Int) = a by omega]
  exact key l a h
theorem mv_abs {x : Int} (hx : -9223372036854775807 ≤ x) (hx2 : x ≤ 9223372036854775807) : FnF Try.prog 58 true [iA x] (iA (absS x)) := by
  exact fn_e2 Try.func58 400 [.d, .d, .d, .v (iV (-x)), .d, .d] (ob := [(iV (IntKind.wrap .i64 (0 - x)) : AV) = (iV (-x) : AV), (max x (-x) : Int) = absS x]) ⟨iW ((w64 (by omega) (by omega)).trans (by omega)), (by simp [absS]), trivial⟩

theorem mv_mod {a m : Int} (h1 : 0 < m) (h2 : m ≤ 1152921504606846976) : FnF Try.prog 56 true [iA a, iA m] (iA (a % m)) := by
  have hb := tmod_bd a m h1
  exact fn_e2 Try.func56 400 [.d, .d, .d, .d, .d, .v (iV ((a.tmod m) + m)), .d, .d, .d] (ob := [m ≠ 0, (iV (IntKind.wrap .i64 ((a.tmod m) + m)) : AV) = (iV ((a.tmod m) + m) : AV), m ≠ 0, (((a.tmod m) + m).tmod m : Int) = a % m]) ⟨(by omega), iW (w64 (by omega) (by omega)), (by omega), (by exact emod_of_tmod _ _ h1), trivial⟩

theorem mv_gcdF {a : Int} {l : List Int} (ha : -9223372036854775807 ≤ a) (ha2 : a ≤ 9223372036854775807) (hl : ∀ n, n < l.length → -9223372036854775807 ≤ l.getD n 0 ∧ l.getD n 0 ≤ 9223372036854775807) (hn : l.length < 1000) : FnF Try.prog 57 true [iA a, .list (l.map encI)] (iA (gcdF a l)) := by
  refine fn_walkF Try.func57 (by kernel_rfl) (by kernel_rfl) (by kernel_rfl) (st := (stX (.tuple []) 22 [(0, iV a), (1, .list (l.map encI))] [])) rfl ?_
  refine Ok.sq [] ?_
  refine Ok.ev2 400 [.d] [0, 1, 4, 7, 8, 9] 0 (st' := (stX .any 22 [(0, iV a), (1, .list (l.map encI)), (4, iV 0), (7, .tuple []), (8, .tuple []), (9, .tuple [])] [])) (e := .normal) (ob := []) trivial ?_
  refine seq_n ?_
  refine Ok.sq [true] ?_
  refine Ok.sq [true, false] ?_
  refine Ok.ev2 400 [.d, .v (iV (l.length : Int)), .d] [0, 4, 7, 8, 9] 0 (st' := (stX .any 22 [(0, iV a), (4, iV 0), (7, .list (l.map encI)), (8, iV (l.length : Int)), (9, iV 0)] [])) (e := .normal) (ob := [(iV (((l.map encI).length : Nat) : Int) : AV) = (iV (l.length : Int) : AV)]) ⟨len_map, trivial⟩ ?_
  refine seq_n ?_
  refine Ok.bk [true, false, true] 0 ?_
  refine Ok.loopB [true, false, true, false] (by kernel_rfl) (fun m_ s_ => ∃ (x : Int) (i : Nat), (i ≤ l.length) ∧ (-9223372036854775807 ≤ x) ∧ (x ≤ 9223372036854775807) ∧ (gcdF x (l.drop i) = gcdF a l) ∧ m_ = l.length - i ∧ s_ = (stX .any 22 [(0, iV x), (4, iV 0), (7, .list (l.map encI)), (8, iV (l.length : Int)), (9, iV ((i : Nat) : Int))] [])) (l.length - 0) (⟨a, 0, (by omega), (by omega), (by omega), rfl, rfl, rfl⟩) ?_
  rintro m_ s_ ⟨x, i, hi, hb, hb2, he, rfl, rfl⟩
  refine Ok.sq [true, false, true, false, false] ?_
  by_cases q1 : ((i : Nat) : Int) < (l.length : Int)
  · refine Ok.ev2 400 [.v (.bool true)] [0, 4, 7, 8, 9, 10] 0 (st' := (stX .any 22 [(0, iV x), (4, iV 0), (7, .list (l.map encI)), (8, iV (l.length : Int)), (9, iV ((i : Nat) : Int)), (10, .bool true)] [])) (e := .normal) (ob := [_]) ⟨(bT q1), trivial⟩ ?_
    refine seq_n ?_
    refine Ok.sq [true, false, true, false, false, true] ?_
    refine Ok.ev2 400 [.d] [0, 4, 6, 7, 8, 9] 0 (st' := (stX .any 22 [(0, iV x), (4, iV 0), (7, .list (l.map encI)), (8, iV (l.length : Int)), (9, iV ((i : Nat) : Int))] [])) (e := .normal) (ob := []) trivial ?_
    refine seq_n ?_
    refine Ok.sq [true, false, true, false, false, true, true] ?_
    refine Ok.bk [true, false, true, false, false, true, true, false] 1 ?_
    refine Ok.sq [true, false, true, false, false, true, true, false, false] ?_
    refine Ok.ev2 400 [.e (encI (l.getD i 0)), .d, .d] [0, 4, 6, 7, 8, 9] 0 (st' := (stX .any 22 [(0, iV x), (4, iV 0), (6, iV (l.getD i 0)), (7, .list (l.map encI)), (8, iV (l.length : Int)), (9, iV ((i : Nat) : Int))] [])) (e := .normal) (ob := [0 ≤ ((i : Nat) : Int), (l.map encI)[((i : Nat) : Int).toNat]? = some (encI (l.getD i 0))]) ⟨(by omega), elemN (by omega) (by omega), trivial⟩ ?_
    refine seq_n ?_
    refine Ok.bk [true, false, true, false, false, true, true, false, false, true] 2 ?_
    refine Ok.loopB [true, false, true, false, false, true, true, false, false, true, false] (by kernel_rfl) (fun m_ s_ => ∃ (u : Int) (v : Int), (-9223372036854775807 ≤ u) ∧ (u ≤ 9223372036854775807) ∧ (-9223372036854775807 ≤ v) ∧ (v ≤ 9223372036854775807) ∧ (Int.gcd u v = Int.gcd x (l.getD i 0)) ∧ m_ = (v).natAbs ∧ s_ = (stX .any 22 [(0, iV u), (4, iV 0), (6, iV v), (7, .list (l.map encI)), (8, iV (l.length : Int)), (9, iV ((i : Nat) : Int))] [])) (((l.getD i 0)).natAbs) (⟨x, (l.getD i 0), (by omega), (by omega), (hl i (by omega)).1, (hl i (by omega)).2, rfl, rfl, rfl⟩) ?_
    rintro m_ s_ ⟨u, v, hu, hu2, hv, hv2, hg, rfl, rfl⟩
    refine Ok.sq [true, false, true, false, false, true, true, false, false, true, false, false] ?_
    refine Ok.sq [true, false, true, false, false, true, true, false, false, true, false, false, false] ?_
    by_cases q2 : v = 0
    · refine Ok.ev2 400 [.d, .v (.bool false)] [0, 4, 6, 7, 8, 9, 14] 0 (st' := (stX .any 22 [(0, iV u), (4, iV 0), (6, iV v), (7, .list (l.map encI)), (8, iV (l.length : Int)), (9, iV ((i : Nat) : Int)), (14, .bool false)] [])) (e := .normal) (ob := [_]) ⟨(nF q2), trivial⟩ ?_
      refine seq_n ?_
      refine Ok.ev2 400 [.d] [0, 4, 7, 8, 9] 0 (st' := (stX .any 22 [(0, iV u), (4, iV 0), (7, .list (l.map encI)), (8, iV (l.length : Int)), (9, iV ((i : Nat) : Int))] [])) (e := (.exit 2)) (ob := []) trivial ?_
      refine seq_e ?_
      refine loopg_e ?_
      refine blkQ_here ?_
      refine blk_n ?_
      refine seq_n ?_
      refine Ok.ev2 400 [.v (iV (((i : Nat) : Int) + 1)), .d] [0, 4, 7, 8, 9] 0 (st' := (stX .any 22 [(0, iV u), (4, iV 0), (7, .list (l.map encI)), (8, iV (l.length : Int)), (9, iV (((i : Nat) : Int) + 1))] [])) (e := .normal) (ob := [(iV (IntKind.wrap .i64 (((i : Nat) : Int) + 1)) : AV) = (iV (((i : Nat) : Int) + 1) : AV)]) ⟨iW (w64 (by omega) (by omega)), trivial⟩ ?_
      exact loop_g [0, 4, 7, 8, 9] 0 (l.length - (i + 1)) (by omega) rfl (s' := (stX .any 22 [(0, iV u), (4, iV 0), (7, .list (l.map encI)), (8, iV (l.length : Int)), (9, iV (((i : Nat) : Int) + 1))] [])) (ob := []) (by kernel_rfl) trivial (⟨u, (i + 1), (by omega), (by omega), (by omega), (by rw [← he, ← gcdF_step x l i (by omega), ← hg, ‹v = 0›, Int.gcd_zero_right]; exact (gcdF_abs _ _).symm), rfl, rfl⟩)
    · refine Ok.ev2 400 [.d, .v (.bool true)] [0, 4, 6, 7, 8, 9, 14] 0 (st' := (stX .any 22 [(0, iV u), (4, iV 0), (6, iV v), (7, .list (l.map encI)), (8, iV (l.length : Int)), (9, iV ((i : Nat) : Int)), (14, .bool true)] [])) (e := .normal) (ob := [_]) ⟨(nT q2), trivial⟩ ?_
      refine seq_n ?_
      refine Ok.ev2 400 [.d] [0, 4, 6, 7, 8, 9] 0 (st' := (stX .any 22 [(0, iV u), (4, iV 0), (6, iV v), (7, .list (l.map encI)), (8, iV (l.length : Int)), (9, iV ((i : Nat) : Int))] [])) (e := .normal) (ob := []) trivial ?_
      refine seq_n ?_
      refine Ok.ev2 400 [.d, .d, .d, .d, .d, .d] [0, 4, 6, 7, 8, 9] 0 (st' := (stX .any 22 [(0, iV v), (4, iV 0), (6, iV (u.tmod v)), (7, .list (l.map encI)), (8, iV (l.length : Int)), (9, iV ((i : Nat) : Int))] [])) (e := .normal) (ob := [v ≠ 0]) ⟨(by omega), trivial⟩ ?_
      exact loop_g [0, 4, 6, 7, 8, 9] 0 ((u.tmod v).natAbs) (tmod_lt u v (by omega)) rfl (s' := (stX .any 22 [(0, iV v), (4, iV 0), (6, iV (u.tmod v)), (7, .list (l.map encI)), (8, iV (l.length : Int)), (9, iV ((i : Nat) : Int))] [])) (ob := []) (by kernel_rfl) trivial (⟨v, (u.tmod v), (by omega), (by omega), (by have := tmod_le u v; omega), (by have := tmod_le u v; omega), (by rw [gcdT_step]; exact hg), rfl, rfl⟩)
  · refine Ok.ev2 400 [.v (.bool false)] [0, 4, 7, 8, 9, 10] 0 (st' := (stX .any 22 [(0, iV x), (4, iV 0), (7, .list (l.map encI)), (8, iV (l.length : Int)), (9, iV ((i : Nat) : Int)), (10, .bool false)] [])) (e := .normal) (ob := [_]) ⟨(bF q1), trivial⟩ ?_
    refine seq_n ?_
    refine Ok.sq [true, false, true, false, false, true] ?_
    refine Ok.ev2 400 [.d] [0, 4] 0 (st' := (stX .any 22 [(0, iV x), (4, iV 0)] [])) (e := (.exit 0)) (ob := []) trivial ?_
    refine seq_e ?_
    refine loopg_e ?_
    refine blkQ_here ?_
    refine seq_n ?_
    refine Ok.ev2 400 [.d, .f true (iV (absS x)), .d] [4] 0 (st' := (stX .any 22 [(4, iV (absS x))] [])) (e := .ret) (ob := [FnF Try.prog 58 true [iV x] (iV (absS x))]) ⟨mv_abs (by omega) (by omega), trivial⟩ ?_
    exact ⟨.inr rfl, finF_of (ob := [(absS x : Int) = gcdF a l]) (by kernel_rfl) ⟨(by rw [← he, show i = l.length by omega, List.drop_length]; simp [gcdF, absS]; omega), trivial⟩⟩

theorem mv_value {v : Int}  : FnF Try.prog 72 true [iA v] (.bool (decide (-2147483648 ≤ v ∧ v ≤ 2147483647))) := by
  by_cases q1 : v ≥ (-2147483648)
  · by_cases q2 : v ≤ 2147483647
    · exact fn_e2 Try.func72 400 [.d, .d, .v (.bool true), .d, .d, .v (.bool true), .d, .d] (ob := [_, _, (true : Bool) = (decide (-2147483648 ≤ v ∧ v ≤ 2147483647))]) ⟨(bT q1), (bT q2), (by simp; omega), trivial⟩
    · exact fn_e2 Try.func72 400 [.d, .d, .v (.bool true), .d, .d, .v (.bool false), .d, .d] (ob := [_, _, (false : Bool) = (decide (-2147483648 ≤ v ∧ v ≤ 2147483647))]) ⟨(bT q1), (bF q2), (by simp; omega), trivial⟩
  · exact fn_e2 Try.func72 400 [.d, .d, .v (.bool false), .d, .d, .d, .d, .d] (ob := [_, (false : Bool) = (decide (-2147483648 ≤ v ∧ v ≤ 2147483647))]) ⟨(bF q1), (by simp; omega), trivial⟩

theorem mv_by {lo hi m k : Int} (h1 : -9223372036854775807 ≤ lo) (h1b : lo ≤ 2305843009213693952) (h2 : -2305843009213693952 ≤ hi) (h2b : hi ≤ 2305843009213693952) (h3 : m ≤ 1152921504606846976) (h4 : lo ≤ hi) (h5 : -2305843009213693952 ≤ lo) (h6 : m ≤ 0 → lo = hi) : FnF Try.prog 35 true [iA lo, iA hi, iA m, iA k] (encA (byS lo hi m k)) := by
  have hb := emod_bd (hi - lo) m
  have hb2 := emod_bd lo m
  by_cases q1 : m > 0
  · by_cases q2 : lo = (hi - ((hi - lo) % m))
    · refine fn_e2 Try.func35 400 [.d, .d, .v (.bool true), .d, .d, .d, .d, .v (iV (hi - lo)), .d, .v (iV ((hi - lo) % m)), .v (iV (hi - ((hi - lo) % m))), .d, .d, .d, .v (.bool true), .d, .d, .d, .d, .d, .d] (ob := [_, (iV (IntKind.wrap .i64 (hi - lo)) : AV) = (iV (hi - lo) : AV), (iV ((hi - lo).tmod m) : AV) = (iV ((hi - lo) % m) : AV), m ≠ 0, (iV (IntKind.wrap .i64 (hi - ((hi - lo) % m))) : AV) = (iV (hi - ((hi - lo) % m)) : AV), _, (lo : Int) = (byS lo hi m k).lo, (lo : Int) = (byS lo hi m k).hi, (1 : Int) = (byS lo hi m k).m, (0 : Int) = (byS lo hi m k).r, (k : Int) = (byS lo hi m k).k]) ⟨(bT q1), iW (w64 (by omega) (by omega)), iI (Int.tmod_eq_emod_of_nonneg (by omega)), (by omega), iW (w64 (by omega) (by omega)), (eT q2), ?_, ?_, ?_, ?_, ?_, trivial⟩ <;> (unfold byS; (repeat' split) <;> first | rfl | (exfalso; omega) | (simp; done) | omega | (dsimp only; omega))
    · refine fn_e2 Try.func35 400 [.d, .d, .v (.bool true), .d, .d, .d, .d, .v (iV (hi - lo)), .d, .v (iV ((hi - lo) % m)), .v (iV (hi - ((hi - lo) % m))), .d, .d, .d, .v (.bool false), .d, .d, .d, .d, .d, .d, .f true (iV (lo % m)), .d, .d, .d] (ob := [_, (iV (IntKind.wrap .i64 (hi - lo)) : AV) = (iV (hi - lo) : AV), (iV ((hi - lo).tmod m) : AV) = (iV ((hi - lo) % m) : AV), m ≠ 0, (iV (IntKind.wrap .i64 (hi - ((hi - lo) % m))) : AV) = (iV (hi - ((hi - lo) % m)) : AV), _, FnF Try.prog 56 true [iV lo, iV m] (iV (lo % m)), (lo : Int) = (byS lo hi m k).lo, (hi - ((hi - lo) % m) : Int) = (byS lo hi m k).hi, (m : Int) = (byS lo hi m k).m, (lo % m : Int) = (byS lo hi m k).r, (k : Int) = (byS lo hi m k).k]) ⟨(bT q1), iW (w64 (by omega) (by omega)), iI (Int.tmod_eq_emod_of_nonneg (by omega)), (by omega), iW (w64 (by omega) (by omega)), (eF q2), mv_mod (by omega) (by omega), ?_, ?_, ?_, ?_, ?_, trivial⟩ <;> (unfold byS; (repeat' split) <;> first | rfl | (exfalso; omega) | (simp; done) | omega | (dsimp only; omega))
  · refine fn_e2 Try.func35 400 [.d, .d, .v (.bool false), .d, .d, .d, .v (.bool true), .d, .d, .d, .d, .d, .d] (ob := [_, (.bool (lo == hi) : AV) = (.bool true : AV), (lo : Int) = (byS lo hi m k).lo, (lo : Int) = (byS lo hi m k).hi, (1 : Int) = (byS lo hi m k).m, (0 : Int) = (byS lo hi m k).r, (k : Int) = (byS lo hi m k).k]) ⟨(bF q1), (eT (by omega)), ?_, ?_, ?_, ?_, ?_, trivial⟩ <;> (unfold byS; (repeat' split) <;> first | rfl | (exfalso; omega) | (simp; done) | omega | (dsimp only; omega))

theorem mv_step {a : Ab}  : FnF Try.prog 38 true [encA a] (iA (stepS a)) := by
  by_cases q1 : a.lo = a.hi
  · exact fn_e2 Try.func38 400 [.d, .d, .d, .d, .d, .d, .v (.bool true), .d, .d] (ob := [_, (0 : Int) = stepS a]) ⟨(eT q1), (by simp [stepS, *]), trivial⟩
  · exact fn_e2 Try.func38 400 [.d, .d, .d, .d, .d, .d, .v (.bool false), .d, .d, .d, .d] (ob := [_, (a.m : Int) = stepS a]) ⟨(eF q1), (by simp [stepS, *]), trivial⟩

theorem mv_gcd {a : Int} {l : List Int} (h0 : 0 ≤ a) (h1 : a ≤ 9223372036854775807) (hl : ∀ x ∈ l, -9223372036854775807 ≤ x ∧ x ≤ 9223372036854775807) (hn : l.length < 1000) : FnF Try.prog 57 true [.int .i64 a, .list (l.map encI)] (.int .i64 (gcdS a l)) := by
  rw [← gcdF_is a h0 l]
  refine mv_gcdF (by omega) h1 (fun n hn => ?_) hn
  have := hl l[n] (List.getElem_mem hn)
  simpa [List.getD_eq_getElem?_getD, List.getElem?_eq_getElem hn] using this
theorem good_bd {a : Ab} (h : Good a) : -2147483648 ≤ a.lo ∧ a.lo ≤ a.hi ∧ a.hi ≤ 2147483647 ∧ 0 ≤ a.k ∧ a.k ≤ 255 ∧ 1 ≤ a.m ∧ a.m ≤ 4294967296 ∧ 0 ≤ stepS a ∧ stepS a ≤ 4294967296 := by
  obtain ⟨h1, h2, h3, h4, h5, h6, h7, h8⟩ := h
  have hm : a.m ≤ 4294967296 := by
    by_cases h : a.lo = a.hi
    · have := (h7 h).1; omega
    · have := (h8 h).1; omega
  unfold stepS
  split <;> omega
theorem join_g {a b : Ab} (ha : Good a) (hb : Good b) : 0 ≤ joinG (stepS a) (stepS b) (a.lo - b.lo) ∧ joinG (stepS a) (stepS b) (a.lo - b.lo) ≤ 4294967296 ∧ (joinG (stepS a) (stepS b) (a.lo - b.lo) ≤ 0 → min a.lo b.lo = max a.hi b.hi) := by
  have ka := good_bd ha
  have kb := good_bd hb
  have g0 := joinG_nonneg (stepS a) (stepS b) (a.lo - b.lo)
  obtain ⟨d1, d2, d3⟩ := joinG_dvds (stepS a) (stepS b) (a.lo - b.lo)
  have za := ha.step_zero
  have zb := hb.step_zero
  refine ⟨g0, ?_, fun h => ?_⟩
  · by_cases h1 : stepS a = 0
    · by_cases h2 : stepS b = 0
      · by_cases h3 : a.lo - b.lo = 0
        · rw [h1, h2, h3]; decide
        · have := Int.le_of_dvd (show 0 < absS (a.lo - b.lo) by unfold absS; omega) (show joinG (stepS a) (stepS b) (a.lo - b.lo) ∣ absS (a.lo - b.lo) by rw [absS_natAbs]; exact Int.dvd_natAbs.2 d3)
          unfold absS at this; omega
      · have := Int.le_of_dvd (by omega) d2; omega
    · have := Int.le_of_dvd (by omega) d1; omega
  · have h0 : joinG (stepS a) (stepS b) (a.lo - b.lo) = 0 := by omega
    rw [h0] at d1 d2 d3
    have e1 := Int.zero_dvd.1 d1
    have e2 := Int.zero_dvd.1 d2
    have e3 := Int.zero_dvd.1 d3
    have := za.1 e1
    have := zb.1 e2
    omega

theorem mv_join {a b : Ab} (ga : Good a) (gb : Good b) : FnF Try.prog 37 true [encA a, encA b] (encA (joinS a b)) := by
  have ka := good_bd ga
  have kb := good_bd gb
  have kd : absS (a.lo - b.lo) = max (a.lo - b.lo) (-(a.lo - b.lo)) := rfl
  have kg : 0 ≤ gcdS (stepS a) [stepS b, absS (a.lo - b.lo)] ∧ gcdS (stepS a) [stepS b, absS (a.lo - b.lo)] ≤ 4294967296 ∧ (gcdS (stepS a) [stepS b, absS (a.lo - b.lo)] ≤ 0 → min a.lo b.lo = max a.hi b.hi) := join_g ga gb
  exact fn_e2 Try.func37 400 [.d, .d, .d, .d, .d, .d, .d, .d, .d, .d, .d, .d, .d, .d, .f true (iV (stepS a)), .d, .f true (iV (stepS b)), .d, .d, .d, .d, .v (iV (a.lo - b.lo)), .f true (iV (absS (a.lo - b.lo))), .d, .f true (iV (gcdS (stepS a) [stepS b, absS (a.lo - b.lo)])), .d, .d, .d, .d, .d, .f true (encA (byS (min a.lo b.lo) (max a.hi b.hi) (gcdS (stepS a) [stepS b, absS (a.lo - b.lo)]) (bits .or .i64 a.k b.k))), .d] (ob := [FnF Try.prog 38 true [.agg [iV a.lo, iV a.hi, iV a.m, iV a.r, iV a.k]] (iV (stepS a)), FnF Try.prog 38 true [.agg [iV b.lo, iV b.hi, iV b.m, iV b.r, iV b.k]] (iV (stepS b)), (iV (IntKind.wrap .i64 (a.lo - b.lo)) : AV) = (iV (a.lo - b.lo) : AV), FnF Try.prog 58 true [iV (a.lo - b.lo)] (iV (absS (a.lo - b.lo))), FnF Try.prog 57 true [iV (stepS a), .list [iV (stepS b), iV (absS (a.lo - b.lo))]] (iV (gcdS (stepS a) [stepS b, absS (a.lo - b.lo)])), ∀ e ∈ ([iV (stepS b), iV (absS (a.lo - b.lo))] : List AV), idsOf e = [], FnF Try.prog 35 true [iV (min a.lo b.lo), iV (max a.hi b.hi), iV (gcdS (stepS a) [stepS b, absS (a.lo - b.lo)]), iV (bits .or .i64 a.k b.k)] (encA (byS (min a.lo b.lo) (max a.hi b.hi) (gcdS (stepS a) [stepS b, absS (a.lo - b.lo)]) (bits .or .i64 a.k b.k))), ((byS (min a.lo b.lo) (max a.hi b.hi) (gcdS (stepS a) [stepS b, absS (a.lo - b.lo)]) (bits .or .i64 a.k b.k)).lo : Int) = (joinS a b).lo, ((byS (min a.lo b.lo) (max a.hi b.hi) (gcdS (stepS a) [stepS b, absS (a.lo - b.lo)]) (bits .or .i64 a.k b.k)).hi : Int) = (joinS a b).hi, ((byS (min a.lo b.lo) (max a.hi b.hi) (gcdS (stepS a) [stepS b, absS (a.lo - b.lo)]) (bits .or .i64 a.k b.k)).m : Int) = (joinS a b).m, ((byS (min a.lo b.lo) (max a.hi b.hi) (gcdS (stepS a) [stepS b, absS (a.lo - b.lo)]) (bits .or .i64 a.k b.k)).r : Int) = (joinS a b).r, ((byS (min a.lo b.lo) (max a.hi b.hi) (gcdS (stepS a) [stepS b, absS (a.lo - b.lo)]) (bits .or .i64 a.k b.k)).k : Int) = (joinS a b).k]) ⟨mv_step (a := a), mv_step (a := b), iW (w64 (by omega) (by omega)), mv_abs (by omega) (by omega), mv_gcd (l := [stepS b, absS (a.lo - b.lo)]) (by omega) (by omega) (by simp; omega) (by simp), (by simp [idsOf, idsL]), mv_by (by omega) (by omega) (by omega) (by omega) (by omega) (by omega) (by omega) (by omega), rfl, rfl, rfl, rfl, rfl, trivial⟩

theorem ab_eq (a b : Ab) : AV.bool (a.lo == b.lo && (a.hi == b.hi && (a.m == b.m && (a.r == b.r && (a.k == b.k && true))))) = AV.bool (decide (a = b)) := by
  congr 1
  rw [Bool.eq_iff_iff]
  simp [ab_ext]

theorem mv_leq {a b : Ab} (ga : Good a) (gb : Good b) : FnF Try.prog 19 true [encA a, encA b] (.bool (leqS a b)) := by
  by_cases q1 : (joinS a b) = b
  · exact fn_e2 Try.func19 400 [.d, .d, .d, .d, .d, .f true (encA (joinS a b)), .d, .v (.bool true), .d] (ob := [FnF Try.prog 37 true [.agg [iV a.lo, iV a.hi, iV a.m, iV a.r, iV a.k], .agg [iV b.lo, iV b.hi, iV b.m, iV b.r, iV b.k]] (encA (joinS a b)), (.bool ((((joinS a b).lo) == b.lo) && ((((joinS a b).hi) == b.hi) && ((((joinS a b).m) == b.m) && ((((joinS a b).r) == b.r) && ((((joinS a b).k) == b.k) && true))))) : AV) = (.bool true : AV), (true : Bool) = (leqS a b)]) ⟨mv_join (a := a) (b := b) ga gb, (ab_eq (joinS a b) b).trans (bT q1), (by simp [leqS, *]), trivial⟩
  · exact fn_e2 Try.func19 400 [.d, .d, .d, .d, .d, .f true (encA (joinS a b)), .d, .v (.bool false), .d] (ob := [FnF Try.prog 37 true [.agg [iV a.lo, iV a.hi, iV a.m, iV a.r, iV a.k], .agg [iV b.lo, iV b.hi, iV b.m, iV b.r, iV b.k]] (encA (joinS a b)), (.bool ((((joinS a b).lo) == b.lo) && ((((joinS a b).hi) == b.hi) && ((((joinS a b).m) == b.m) && ((((joinS a b).r) == b.r) && ((((joinS a b).k) == b.k) && true))))) : AV) = (.bool false : AV), (false : Bool) = (leqS a b)]) ⟨mv_join (a := a) (b := b) ga gb, (ab_eq (joinS a b) b).trans (bF q1), (by simp [leqS, *]), trivial⟩

theorem mv_like {r m lo hi k : Int} (h1 : -4294967296 ≤ lo) (h2 : hi ≤ 4294967296) (h3 : 0 < m) (h4 : m ≤ 8589934592) (h5 : -2305843009213693952 ≤ r - lo) (h6 : r - lo ≤ 2305843009213693952) (h7 : lo + (r - lo) % m ≤ hi) : FnF Try.prog 74 true [iA r, iA m, iA lo, iA hi, iA k] (encA (likeS r m lo hi k)) := by
  have hb : 0 ≤ (r - lo) % m ∧ (r - lo) % m < m := emod_bd _ _ h3
  exact fn_e2 Try.func74 400 [.d, .d, .d, .d, .v (iV (r - lo)), .d, .f true (iV ((r - lo) % m)), .v (iV (lo + ((r - lo) % m))), .d, .d, .d, .f true (encA (byS (lo + ((r - lo) % m)) hi m k)), .d] (ob := [(iV (IntKind.wrap .i64 (r - lo)) : AV) = (iV (r - lo) : AV), FnF Try.prog 56 true [iV (r - lo), iV m] (iV ((r - lo) % m)), (iV (IntKind.wrap .i64 (lo + ((r - lo) % m))) : AV) = (iV (lo + ((r - lo) % m)) : AV), FnF Try.prog 35 true [iV (lo + ((r - lo) % m)), iV hi, iV m, iV k] (encA (byS (lo + ((r - lo) % m)) hi m k)), ((byS (lo + ((r - lo) % m)) hi m k).lo : Int) = (likeS r m lo hi k).lo, ((byS (lo + ((r - lo) % m)) hi m k).hi : Int) = (likeS r m lo hi k).hi, ((byS (lo + ((r - lo) % m)) hi m k).m : Int) = (likeS r m lo hi k).m, ((byS (lo + ((r - lo) % m)) hi m k).r : Int) = (likeS r m lo hi k).r, ((byS (lo + ((r - lo) % m)) hi m k).k : Int) = (likeS r m lo hi k).k]) ⟨iW (w64 (by omega) (by omega)), mv_mod (by omega) (by omega), iW (w64 (by omega) (by omega)), mv_by (by omega) (by omega) (by omega) (by omega) (by omega) (by omega) (by omega) (by omega), rfl, rfl, rfl, rfl, rfl, trivial⟩

theorem wrap_t (v : Int) : wrap32 v = wrap32 (v.tmod 4294967296) := by
  have e := Int.mul_tdiv_add_tmod v 4294967296
  generalize v.tdiv 4294967296 = q at *
  unfold wrap32; omega
theorem ediv_mul (x m : Int) : x / m * m = x - x % m := by
  have h2 := Int.mul_ediv_add_emod x m
  rw [Int.mul_comm] at h2; omega
theorem good_by {a : Ab} (h : Good a) : byS a.lo a.hi a.m a.k = a := by
  have hm := h.h6
  have h7 := h.h7
  have h8 := h.h8
  obtain ⟨lo, hi, m, r, k⟩ := a
  simp only at *
  unfold byS
  rw [if_pos (by omega)]
  by_cases he : lo = hi
  · obtain ⟨rfl, rfl⟩ := h7 he
    subst he
    simp
  · obtain ⟨_, h2, rfl⟩ := h8 he
    rw [h2, if_neg (by omega)]
    simp

theorem mv_wrap {v : Int} (h1 : -9223372036854775808 ≤ v) (h2 : v ≤ 9223372036854775807) : FnF Try.prog 31 true [iA v] (iA (wrap32 v)) := by
  have ht : -4294967296 < v.tmod 4294967296 ∧ v.tmod 4294967296 < 4294967296 := tmod_bd v 4294967296 (by omega)
  by_cases q1 : (v.tmod 4294967296) < (-2147483648)
  · exact fn_e2 Try.func31 400 [.d, .d, .d, .d, .d, .v (.bool true), .d, .d, .v (iV ((v.tmod 4294967296) + 4294967296)), .d] (ob := [(4294967296 : Int) ≠ 0, _, (iV (IntKind.wrap .i64 ((v.tmod 4294967296) + 4294967296)) : AV) = (iV ((v.tmod 4294967296) + 4294967296) : AV), ((v.tmod 4294967296) + 4294967296 : Int) = wrap32 v]) ⟨(by decide), (bT q1), iW (w64 (by omega) (by omega)), (by rw [wrap_t]; unfold wrap32; omega), trivial⟩
  · by_cases q2 : (v.tmod 4294967296) > 2147483647
    · exact fn_e2 Try.func31 400 [.d, .d, .d, .d, .d, .v (.bool false), .d, .d, .v (.bool true), .d, .d, .v (iV ((v.tmod 4294967296) - 4294967296)), .d] (ob := [(4294967296 : Int) ≠ 0, _, _, (iV (IntKind.wrap .i64 ((v.tmod 4294967296) - 4294967296)) : AV) = (iV ((v.tmod 4294967296) - 4294967296) : AV), ((v.tmod 4294967296) - 4294967296 : Int) = wrap32 v]) ⟨(by decide), (bF q1), (bT q2), iW (w64 (by omega) (by omega)), (by rw [wrap_t]; unfold wrap32; omega), trivial⟩
    · exact fn_e2 Try.func31 400 [.d, .d, .d, .d, .d, .v (.bool false), .d, .d, .v (.bool false), .d, .d, .d] (ob := [(4294967296 : Int) ≠ 0, _, _, (v.tmod 4294967296 : Int) = wrap32 v]) ⟨(by decide), (bF q1), (bF q2), (by rw [wrap_t]; unfold wrap32; omega), trivial⟩

theorem mv_rmod {a m : Int} (h1 : 0 < m) (h2 : m ≤ 1152921504606846976) : FnF Try.prog 32 true [iA a, iA m] (iA (a % m)) := by
  have hb := tmod_bd a m h1
  exact fn_e2 Try.func32 400 [.d, .d, .d, .d, .d, .v (iV ((a.tmod m) + m)), .d, .d, .d] (ob := [m ≠ 0, (iV (IntKind.wrap .i64 ((a.tmod m) + m)) : AV) = (iV ((a.tmod m) + m) : AV), m ≠ 0, (((a.tmod m) + m).tmod m : Int) = a % m]) ⟨(by omega), iW (w64 (by omega) (by omega)), (by omega), (by exact emod_of_tmod _ _ h1), trivial⟩

theorem mv_rby {lo hi m k : Int} (h2 : -2305843009213693952 ≤ hi) (h2b : hi ≤ 2305843009213693952) (h3 : m ≤ 1152921504606846976) (h4 : lo ≤ hi) (h5 : -2305843009213693952 ≤ lo) (h6 : m ≤ 0 → lo = hi) : FnF Try.prog 33 true [iA lo, iA hi, iA m, iA k] (encA (byS lo hi m k)) := by
  have hb : 0 < m → 0 ≤ (hi - lo) % m ∧ (hi - lo) % m < m := emod_bd (hi - lo) m
  have hc : 0 ≤ hi - lo → (hi - lo) % m ≤ hi - lo := emod_le _ _
  have he : (hi - lo) / m * m = hi - lo - (hi - lo) % m := ediv_mul _ _
  by_cases q1 : m > 0
  · by_cases q2 : lo = (lo + (((hi - lo) / m) * m))
    · refine fn_e2 Try.func33 400 [.d, .d, .v (.bool true), .d, .d, .d, .d, .v (iV (hi - lo)), .d, .v (iV ((hi - lo) / m)), .d, .v (iV (((hi - lo) / m) * m)), .v (iV (lo + (((hi - lo) / m) * m))), .d, .d, .d, .v (.bool true), .d, .d, .d, .d, .d, .d] (ob := [_, (iV (IntKind.wrap .i64 (hi - lo)) : AV) = (iV (hi - lo) : AV), (iV (IntKind.wrap .i64 ((hi - lo).tdiv m)) : AV) = (iV ((hi - lo) / m) : AV), m ≠ 0, (iV (IntKind.wrap .i64 (((hi - lo) / m) * m)) : AV) = (iV (((hi - lo) / m) * m) : AV), (iV (IntKind.wrap .i64 (lo + (((hi - lo) / m) * m))) : AV) = (iV (lo + (((hi - lo) / m) * m)) : AV), _, (lo : Int) = (byS lo hi m k).lo, (lo : Int) = (byS lo hi m k).hi, (1 : Int) = (byS lo hi m k).m, (0 : Int) = (byS lo hi m k).r, (k : Int) = (byS lo hi m k).k]) ⟨(bT q1), iW (w64 (by omega) (by omega)), ediv_w64 (by omega) (by omega) (by omega), (by omega), iW (w64 (by omega) (by omega)), iW (w64 (by omega) (by omega)), (eT q2), ?_, ?_, ?_, ?_, ?_, trivial⟩ <;> (unfold byS; (repeat' split) <;> first | rfl | (exfalso; omega) | (simp; done) | omega | (dsimp only; omega))
    · refine fn_e2 Try.func33 400 [.d, .d, .v (.bool true), .d, .d, .d, .d, .v (iV (hi - lo)), .d, .v (iV ((hi - lo) / m)), .d, .v (iV (((hi - lo) / m) * m)), .v (iV (lo + (((hi - lo) / m) * m))), .d, .d, .d, .v (.bool false), .d, .d, .d, .d, .d, .d, .f true (iV (lo % m)), .d, .d, .d] (ob := [_, (iV (IntKind.wrap .i64 (hi - lo)) : AV) = (iV (hi - lo) : AV), (iV (IntKind.wrap .i64 ((hi - lo).tdiv m)) : AV) = (iV ((hi - lo) / m) : AV), m ≠ 0, (iV (IntKind.wrap .i64 (((hi - lo) / m) * m)) : AV) = (iV (((hi - lo) / m) * m) : AV), (iV (IntKind.wrap .i64 (lo + (((hi - lo) / m) * m))) : AV) = (iV (lo + (((hi - lo) / m) * m)) : AV), _, FnF Try.prog 32 true [iV lo, iV m] (iV (lo % m)), (lo : Int) = (byS lo hi m k).lo, (lo + (((hi - lo) / m) * m) : Int) = (byS lo hi m k).hi, (m : Int) = (byS lo hi m k).m, (lo % m : Int) = (byS lo hi m k).r, (k : Int) = (byS lo hi m k).k]) ⟨(bT q1), iW (w64 (by omega) (by omega)), ediv_w64 (by omega) (by omega) (by omega), (by omega), iW (w64 (by omega) (by omega)), iW (w64 (by omega) (by omega)), (eF q2), mv_rmod (by omega) (by omega), ?_, ?_, ?_, ?_, ?_, trivial⟩ <;> (unfold byS; (repeat' split) <;> first | rfl | (exfalso; omega) | (simp; done) | omega | (dsimp only; omega))
  · refine fn_e2 Try.func33 400 [.d, .d, .v (.bool false), .d, .d, .d, .v (.bool true), .d, .d, .d, .d, .d, .d] (ob := [_, (.bool (lo == hi) : AV) = (.bool true : AV), (lo : Int) = (byS lo hi m k).lo, (lo : Int) = (byS lo hi m k).hi, (1 : Int) = (byS lo hi m k).m, (0 : Int) = (byS lo hi m k).r, (k : Int) = (byS lo hi m k).k]) ⟨(bF q1), (eT (by omega)), ?_, ?_, ?_, ?_, ?_, trivial⟩ <;> (unfold byS; (repeat' split) <;> first | rfl | (exfalso; omega) | (simp; done) | omega | (dsimp only; omega))

theorem mv_rmade {a b c d : Int} (h1 : -9223372036854775808 ≤ a) (h2 : a ≤ 9223372036854775807) : FnF Try.prog 14 true [.agg [iA a, iA b, iA c, iA d]] (encA (madeS a b c d)) := by
  have hw : -2147483648 ≤ wrap32 a ∧ wrap32 a ≤ 2147483647 := wrap32_bd a
  have hm : 0 ≤ c % 1048576 ∧ c % 1048576 < 1048576 := emod_bd _ _ (by omega)
  have hn : 0 ≤ b % 2147483648 ∧ b % 2147483648 < 2147483648 := emod_bd _ _ (by omega)
  have hx : 0 ≤ b % 2147483648 % (1 + c % 1048576) ∧ b % 2147483648 % (1 + c % 1048576) < 1 + c % 1048576 := emod_bd _ _ (by omega)
  have hx2 : b % 2147483648 % (1 + c % 1048576) ≤ b % 2147483648 := emod_le _ _ (by omega)
  have hy : b % 2147483648 / (1 + c % 1048576) * (1 + c % 1048576) = b % 2147483648 - b % 2147483648 % (1 + c % 1048576) := ediv_mul _ _
  have hz : 0 ≤ (2147483647 - wrap32 a) % (1 + c % 1048576) ∧ (2147483647 - wrap32 a) % (1 + c % 1048576) ≤ 2147483647 - wrap32 a := ⟨(emod_bd _ _ (by omega)).1, emod_le _ _ (by omega)⟩
  have hd : 0 ≤ d % 256 ∧ d % 256 < 256 := emod_bd _ _ (by omega)
  exact fn_e2 Try.func14 400 [.d, .d, .d, .d, .f true (iV (wrap32 a)), .d, .d, .d, .f true (iV (c % 1048576)), .v (iV (1 + (c % 1048576))), .d, .d, .d, .f true (iV (b % 2147483648)), .d, .d, .d, .d, .v (iV ((b % 2147483648) / (1 + (c % 1048576)))), .d, .v (iV (((b % 2147483648) / (1 + (c % 1048576))) * (1 + (c % 1048576)))), .v (iV ((wrap32 a) + (((b % 2147483648) / (1 + (c % 1048576))) * (1 + (c % 1048576))))), .d, .v (iV (2147483647 - (wrap32 a))), .d, .f true (iV ((2147483647 - (wrap32 a)) % (1 + (c % 1048576)))), .v (iV (2147483647 - ((2147483647 - (wrap32 a)) % (1 + (c % 1048576))))), .d, .d, .d, .d, .d, .d, .d, .f true (iV (d % 256)), .f true (encA (byS (wrap32 a) (min ((wrap32 a) + (((b % 2147483648) / (1 + (c % 1048576))) * (1 + (c % 1048576)))) (2147483647 - ((2147483647 - (wrap32 a)) % (1 + (c % 1048576))))) (1 + (c % 1048576)) (d % 256))), .d] (ob := [FnF Try.prog 31 true [iV a] (iV (wrap32 a)), FnF Try.prog 32 true [iV c, iV 1048576] (iV (c % 1048576)), (iV (IntKind.wrap .i64 (1 + (c % 1048576))) : AV) = (iV (1 + (c % 1048576)) : AV), FnF Try.prog 32 true [iV b, iV 2147483648] (iV (b % 2147483648)), (iV (IntKind.wrap .i64 ((b % 2147483648).tdiv (1 + (c % 1048576)))) : AV) = (iV ((b % 2147483648) / (1 + (c % 1048576))) : AV), 1 + (c % 1048576) ≠ 0, (iV (IntKind.wrap .i64 (((b % 2147483648) / (1 + (c % 1048576))) * (1 + (c % 1048576)))) : AV) = (iV (((b % 2147483648) / (1 + (c % 1048576))) * (1 + (c % 1048576))) : AV), (iV (IntKind.wrap .i64 ((wrap32 a) + (((b % 2147483648) / (1 + (c % 1048576))) * (1 + (c % 1048576))))) : AV) = (iV ((wrap32 a) + (((b % 2147483648) / (1 + (c % 1048576))) * (1 + (c % 1048576)))) : AV), (iV (IntKind.wrap .i64 (2147483647 - (wrap32 a))) : AV) = (iV (2147483647 - (wrap32 a)) : AV), FnF Try.prog 32 true [iV (2147483647 - (wrap32 a)), iV (1 + (c % 1048576))] (iV ((2147483647 - (wrap32 a)) % (1 + (c % 1048576)))), (iV (IntKind.wrap .i64 (2147483647 - ((2147483647 - (wrap32 a)) % (1 + (c % 1048576))))) : AV) = (iV (2147483647 - ((2147483647 - (wrap32 a)) % (1 + (c % 1048576)))) : AV), FnF Try.prog 32 true [iV d, iV 256] (iV (d % 256)), FnF Try.prog 33 true [iV (wrap32 a), iV (min ((wrap32 a) + (((b % 2147483648) / (1 + (c % 1048576))) * (1 + (c % 1048576)))) (2147483647 - ((2147483647 - (wrap32 a)) % (1 + (c % 1048576))))), iV (1 + (c % 1048576)), iV (d % 256)] (encA (byS (wrap32 a) (min ((wrap32 a) + (((b % 2147483648) / (1 + (c % 1048576))) * (1 + (c % 1048576)))) (2147483647 - ((2147483647 - (wrap32 a)) % (1 + (c % 1048576))))) (1 + (c % 1048576)) (d % 256))), ((byS (wrap32 a) (min ((wrap32 a) + (((b % 2147483648) / (1 + (c % 1048576))) * (1 + (c % 1048576)))) (2147483647 - ((2147483647 - (wrap32 a)) % (1 + (c % 1048576))))) (1 + (c % 1048576)) (d % 256)).lo : Int) = (madeS a b c d).lo, ((byS (wrap32 a) (min ((wrap32 a) + (((b % 2147483648) / (1 + (c % 1048576))) * (1 + (c % 1048576)))) (2147483647 - ((2147483647 - (wrap32 a)) % (1 + (c % 1048576))))) (1 + (c % 1048576)) (d % 256)).hi : Int) = (madeS a b c d).hi, ((byS (wrap32 a) (min ((wrap32 a) + (((b % 2147483648) / (1 + (c % 1048576))) * (1 + (c % 1048576)))) (2147483647 - ((2147483647 - (wrap32 a)) % (1 + (c % 1048576))))) (1 + (c % 1048576)) (d % 256)).m : Int) = (madeS a b c d).m, ((byS (wrap32 a) (min ((wrap32 a) + (((b % 2147483648) / (1 + (c % 1048576))) * (1 + (c % 1048576)))) (2147483647 - ((2147483647 - (wrap32 a)) % (1 + (c % 1048576))))) (1 + (c % 1048576)) (d % 256)).r : Int) = (madeS a b c d).r, ((byS (wrap32 a) (min ((wrap32 a) + (((b % 2147483648) / (1 + (c % 1048576))) * (1 + (c % 1048576)))) (2147483647 - ((2147483647 - (wrap32 a)) % (1 + (c % 1048576))))) (1 + (c % 1048576)) (d % 256)).k : Int) = (madeS a b c d).k]) ⟨mv_wrap (by omega) (by omega), mv_rmod (by omega) (by omega), iW (w64 (by omega) (by omega)), mv_rmod (by omega) (by omega), ediv_w64 (by omega) (by omega) (by omega), (by omega), iW (w64 (by omega) (by omega)), iW (w64 (by omega) (by omega)), iW (w64 (by omega) (by omega)), mv_rmod (by omega) (by omega), iW (w64 (by omega) (by omega)), mv_rmod (by omega) (by omega), mv_rby (by omega) (by omega) (by omega) (by omega) (by omega) (by omega), rfl, rfl, rfl, rfl, rfl, trivial⟩

theorem mv_valid {a : Ab} (ga : Good a) : FnF Try.prog 17 true [encA a] (.bool true) := by
  have ka := good_bd ga
  have k7 : a.lo = a.hi → a.m = 1 ∧ a.r = 0 := ga.h7
  have k8 : ¬ a.lo = a.hi → a.m ≤ a.hi - a.lo := fun h => (ga.h8 h).1
  by_cases q1 : a.lo = a.hi
  · exact fn_e2 Try.func17 400 [.d, .d, .d, .d, .v (.bool false), .d, .d, .d, .d, .d, .v (.bool false), .d, .d, .d, .d, .v (.bool false), .d, .d, .d, .d, .v (.bool false), .d, .d, .d, .d, .v (.bool false), .d, .d, .d, .d, .v (.bool false), .d, .d, .d, .d, .d, .d, .v (.bool true), .d, .d, .d, .v (.bool true), .d, .d, .d, .v (.bool true), .d, .d] (ob := [(.bool (decide (a.lo < (-2147483648))) : AV) = (.bool false : AV), (.bool (decide (a.lo > a.hi)) : AV) = (.bool false : AV), (.bool (decide (a.hi > 2147483647)) : AV) = (.bool false : AV), (.bool (decide (a.k < 0)) : AV) = (.bool false : AV), (.bool (decide (a.k > 255)) : AV) = (.bool false : AV), (.bool (decide (a.m < 1)) : AV) = (.bool false : AV), _, (.bool (a.m == 1) : AV) = (.bool true : AV), (.bool (a.r == 0) : AV) = (.bool true : AV), (true : Bool) = true]) ⟨(bF (by omega)), (bF (by omega)), (bF (by omega)), (bF (by omega)), (bF (by omega)), (bF (by omega)), (eT q1), (eT (by omega)), (eT (by omega)), rfl, trivial⟩
  · exact fn_e2 Try.func17 400 [.d, .d, .d, .d, .v (.bool false), .d, .d, .d, .d, .d, .v (.bool false), .d, .d, .d, .d, .v (.bool false), .d, .d, .d, .d, .v (.bool false), .d, .d, .d, .d, .v (.bool false), .d, .d, .d, .d, .v (.bool false), .d, .d, .d, .d, .d, .d, .v (.bool false), .d, .d, .d, .d, .d, .d, .d, .v (iV (a.hi - a.lo)), .v (.bool true), .d, .d, .d, .d, .d, .d, .d, .d, .d, .d, .f true (encA (byS a.lo a.hi a.m a.k)), .v (.bool true), .d, .d] (ob := [(.bool (decide (a.lo < (-2147483648))) : AV) = (.bool false : AV), (.bool (decide (a.lo > a.hi)) : AV) = (.bool false : AV), (.bool (decide (a.hi > 2147483647)) : AV) = (.bool false : AV), (.bool (decide (a.k < 0)) : AV) = (.bool false : AV), (.bool (decide (a.k > 255)) : AV) = (.bool false : AV), (.bool (decide (a.m < 1)) : AV) = (.bool false : AV), _, (iV (IntKind.wrap .i64 (a.hi - a.lo)) : AV) = (iV (a.hi - a.lo) : AV), (.bool (decide (a.m ≤ (a.hi - a.lo))) : AV) = (.bool true : AV), FnF Try.prog 35 true [iV a.lo, iV a.hi, iV a.m, iV a.k] (encA (byS a.lo a.hi a.m a.k)), (.bool ((a.lo == ((byS a.lo a.hi a.m a.k).lo)) && ((a.hi == ((byS a.lo a.hi a.m a.k).hi)) && ((a.m == ((byS a.lo a.hi a.m a.k).m)) && ((a.r == ((byS a.lo a.hi a.m a.k).r)) && ((a.k == ((byS a.lo a.hi a.m a.k).k)) && true))))) : AV) = (.bool true : AV), (true : Bool) = true]) ⟨(bF (by omega)), (bF (by omega)), (bF (by omega)), (bF (by omega)), (bF (by omega)), (bF (by omega)), (eF q1), iW (w64 (by omega) (by omega)), (bT (by omega)), mv_by (by omega) (by omega) (by omega) (by omega) (by omega) (by omega) (by omega) (by omega), (ab_eq a (byS a.lo a.hi a.m a.k)).trans (bT (good_by ga).symm), rfl, trivial⟩

end Go.Proofs.Ytioiffbnbjalcaa
