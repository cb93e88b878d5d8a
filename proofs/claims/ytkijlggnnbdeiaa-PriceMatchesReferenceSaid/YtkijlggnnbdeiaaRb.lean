/- paroleref02, walked: lists of bits -/
import Derived.Test.YtkijlggnnbdeiaaRbM
import Derived.Test.YtkijlggnnbdeiaaPrSho
import Derived.Test.YtkijlggnnbdeiaaEvZ
import Derived.Test.YtkijlggnnbdeiaaProg
set_option linter.unusedVariables false
set_option linter.unusedSimpArgs false
namespace Go.Proofs.Ytkijlggnnbdeiaa
open Go.RowKit
set_option maxRecDepth 100000

theorem bits_step {L : List Int} {m n : Int} (h : L ++ bl m = bl n) (hm : 0 < m) : L ++ [m % 2] ++ bl (m / 2) = bl n := by
  rw [← h, bl_pos hm, List.append_assoc]; rfl
theorem bits_len {L : List Int} {m n : Int} (h : L ++ bl m = bl n) (hn : n ≤ 9223372036854775807) : L.length ≤ 63 := by
  have e := congrArg List.length h
  rw [List.length_append] at e
  have := bl_len 63 n (by omega)
  omega
theorem bits_end {L : List Int} {m n : Int} (h : L ++ bl m = bl n) (hm : m ≤ 0) : L = bl n := by
  rw [← h, bl_zero hm, List.append_nil]

def sh (a : List Int) (i : Nat) : List Int := List.replicate i 0 ++ a
theorem sh_val (a : List Int) : ∀ i : Nat, val (sh a i) = 2 ^ i * val a
  | 0 => by simp [sh]
  | i + 1 => by
    have := sh_val a i
    unfold sh at *
    rw [List.replicate_succ, List.cons_append, val, this, Int.pow_succ, Int.mul_comm (2 ^ i) 2, Int.mul_assoc]; omega
theorem sh_01 {a : List Int} (h : B01 a) (i : Nat) : B01 (sh a i) := fun x hx => by
  rcases List.mem_append.1 hx with hx | hx
  · exact .inl (List.mem_replicate.1 hx).2
  · exact h x hx
theorem sh_len (a : List Int) (i : Nat) : (sh a i).length = i + a.length := by simp [sh]
theorem sh_enc (a : List Int) (i : Nat) : AV.int .i64 0 :: (sh a i).map encI = (sh a (i + 1)).map encI := rfl
theorem sh_zero (a : List Int) : sh a 0 = a := rfl
theorem tm_zero (a b : List Int) : bl (val a * val (b.take 0)) = [] := bl_zero (by simp [val])
theorem tm_len {a b : List Int} (ha : B01 a) (hb : B01 b) (i : Nat) : (bl (val a * val (b.take i))).length ≤ a.length + b.length := by
  refine bl_len _ _ ?_
  have l1 := val_lt ha
  have l2 := val_lt (b01_take hb i)
  have p : (2 : Int) ^ (b.take i).length ≤ 2 ^ b.length := pow_mono (by simp; omega)
  have v := val_nonneg (b01_take hb i)
  have v1 := val_nonneg ha
  rw [Int.pow_add]
  have lt := val_lt (b01_take hb i)
  have q : (0 : Int) < 2 ^ b.length := Int.pow_pos (by omega)
  have h1 := Int.mul_le_mul_of_nonneg_left (show val (b.take i) ≤ 2 ^ b.length by omega) v1
  have h2 := Int.mul_lt_mul_of_pos_right l1 q
  omega
theorem tm_yes {a b : List Int} (ha : B01 a) (hb : B01 b) {i : Nat} (hi : i < b.length) (h : b.getD i 0 = 1) : val (bl (val a * val (b.take i))) + val (sh a i) = val a * val (b.take (i + 1)) := by
  rw [val_bl _ (Int.mul_nonneg (val_nonneg ha) (val_nonneg (b01_take hb i))), sh_val, val_take1 b i hi, h, Int.mul_one, Int.mul_add, Int.mul_comm (2 ^ i)]
theorem tm_no {a b : List Int} {i : Nat} (hi : i < b.length) (h : b.getD i 0 = 0) : val a * val (b.take i) = val a * val (b.take (i + 1)) := by
  rw [val_take1 b i hi, h, Int.mul_zero, Int.add_zero]

def fitN (v : Int) : Int := if v ≤ 4611686018427387904 then v else 0
theorem cmpB_gt {a b : Int} : (cmpB a b > 0 → b < a) ∧ (¬ cmpB a b > 0 → a ≤ b) := by
  unfold cmpB; split
  · omega
  · split <;> omega
theorem drop_le {a : List Int} (h : B01 a) (i : Nat) : 0 ≤ val (a.drop i) ∧ val (a.drop i) ≤ val a := by
  refine ⟨val_nonneg (b01_drop h i), ?_⟩
  induction i with
  | zero => simp
  | succ i ih =>
    have := val_drop a i
    have g := getD_01 h i
    have := val_nonneg (b01_drop h (i + 1))
    omega

theorem div_no {a Q : List Int} {m r : Int} {n : Nat} (hn : 0 < n) (h : val (Q.drop n) * m + r = val (a.drop n)) (hz : ∀ k, k < n → Q.getD k 0 = 0) : val (Q.drop (n - 1)) * m + (2 * r + a.getD (n - 1) 0) = val (a.drop (n - 1)) := by
  have e1 := val_drop a (n - 1)
  have e2 := val_drop Q (n - 1)
  rw [show n - 1 + 1 = n by omega] at e1 e2
  rw [e1, e2, hz (n - 1) (by omega), ← h, Int.zero_add, Int.mul_assoc]
  generalize val (Q.drop n) * m = t
  omega
theorem set_get {Q : List Int} {j k : Nat} (hj : j < Q.length) : (Q.set j 1).getD k 0 = if j = k then 1 else Q.getD k 0 := by
  rw [List.getD_eq_getElem?_getD, List.getElem?_set]
  split
  · rename_i h; subst h; simp [hj]
  · rw [List.getD_eq_getElem?_getD]
theorem div_yes {a Q : List Int} {m r : Int} {n : Nat} (hn : 0 < n) (hl : n ≤ Q.length) (h : val (Q.drop n) * m + r = val (a.drop n)) : val ((Q.set (n - 1) 1).drop (n - 1)) * m + (2 * r + a.getD (n - 1) 0 - m) = val (a.drop (n - 1)) := by
  have e1 := val_drop a (n - 1)
  have e2 := val_drop (Q.set (n - 1) 1) (n - 1)
  rw [show n - 1 + 1 = n by omega] at e1 e2
  have e3 : (Q.set (n - 1) 1).drop n = Q.drop n := List.drop_set_of_lt (by omega)
  rw [set_get (by omega), if_pos rfl, e3] at e2
  rw [e1, e2, ← h, Int.add_mul, Int.one_mul, Int.mul_assoc]
  generalize val (Q.drop n) * m = t
  omega
theorem set_01 {Q : List Int} (h : B01 Q) (j : Nat) : B01 (Q.set j 1) := fun x hx => by
  rcases List.mem_or_eq_of_mem_set hx with hx | hx
  · exact h x hx
  · exact .inr hx
theorem set_zero {Q : List Int} {n : Nat} (hn : 0 < n) (hl : n ≤ Q.length) (hz : ∀ k, k < n → Q.getD k 0 = 0) : ∀ k, k < n - 1 → (Q.set (n - 1) 1).getD k 0 = 0 := fun k hk => by
  rw [set_get (by omega), if_neg (by omega)]; exact hz k (by omega)
theorem zeros_01 (n : Nat) : B01 (List.replicate n 0) := fun x hx => .inl (List.mem_replicate.1 hx).2
theorem zeros_get (n k : Nat) : (List.replicate n (0 : Int)).getD k 0 = 0 := by
  rcases getD_01 (zeros_01 n) k with h | h
  · exact h
  · by_cases hk : k < (List.replicate n (0 : Int)).length
    · rw [getD_is hk]; simp
    · exact getD_end _ _ (by omega)
theorem rb_bits {n : Int} (h0 : 0 ≤ n) (h1 : n ≤ 9223372036854775807) : FnF Try.prog 80 true [.int .i64 n] (.list ((bl n).map encI)) := by
  refine fn_walkF Try.func80 (by kernel_rfl) (by kernel_rfl) (by kernel_rfl) (st := (stX (.tuple []) 15 [(0, iV n)] [])) rfl ?_
  refine Ok.sq [] ?_
  refine Ok.ev2 400 [.d] [0, 2, 3] 0 (st' := (stX .any 15 [(0, iV n), (2, .nilslice), (3, .tuple [])] [])) (e := .normal) (ob := []) trivial ?_
  refine seq_n ?_
  refine Ok.sq [true] ?_
  refine Ok.ev2 400 [.d, .d] [0, 2, 3] 1 (st' := (stX .any 15 [(0, iV n), (2, .nilslice), (3, .slice 0 0 0 0)] [.row 1 [] 0])) (e := .normal) (ob := [∀ e ∈ ([] : List AV), belowV 1 e = true]) ⟨(by simp [belowV, idsOf, idsL]), trivial⟩ ?_
  refine seq_n ?_
  refine Ok.sq [true, true] ?_
  refine Ok.bk [true, true, false] 0 ?_
  refine Ok.loopB [true, true, false, false] (by kernel_rfl) (fun m_ s_ => ∃ (L : List Int) (m : Int), (0 ≤ m) ∧ (m ≤ 9223372036854775807) ∧ (L ++ bl m = bl n) ∧ m_ = (m).toNat ∧ s_ = (stX .any 15 [(0, iV m), (2, .nilslice), (3, .slice 0 0 L.length 0)] [.row 1 (L.map encI) 0])) ((n).toNat) (⟨([] : List Int), n, (by omega), (by omega), rfl, rfl, rfl⟩) ?_
  rintro m_ s_ ⟨L, m, hm, hm2, hL, rfl, rfl⟩
  have hl : L.length ≤ 63 := bits_len hL h1
  refine Ok.sq [true, true, false, false, false] ?_
  refine Ok.sq [true, true, false, false, false, false] ?_
  by_cases q1 : m > 0
  · refine Ok.ev2 400 [.d, .v (.bool true)] [0, 2, 3, 6] 1 (st' := (stX .any 15 [(0, iV m), (2, .nilslice), (3, .slice 0 0 L.length 0), (6, .bool true)] [.row 1 (L.map encI) 0])) (e := .normal) (ob := [∀ e ∈ (L.map encI : List AV), belowV 1 e = true, (.bool (decide (m > 0)) : AV) = (.bool true : AV)]) ⟨below_ids (ids_map (fun _ => rfl) _), (bT q1), trivial⟩ ?_
    refine seq_n ?_
    refine Ok.ev2 400 [.d] [0, 2, 3] 1 (st' := (stX .any 15 [(0, iV m), (2, .nilslice), (3, .slice 0 0 L.length 0)] [.row 1 (L.map encI) 0])) (e := .normal) (ob := [∀ e ∈ (L.map encI : List AV), belowV 1 e = true]) ⟨below_ids (ids_map (fun _ => rfl) _), trivial⟩ ?_
    refine seq_n ?_
    refine Ok.ev2 400 [.d, .d, .v (iV (m % 2)), .d, .r ((L ++ [m % 2]).map encI), .d, .d, .v (iV (m / 2)), .d] [0, 2, 3] 1 (st' := (stX .any 15 [(0, iV (m / 2)), (2, .nilslice), (3, .slice 0 0 (L.length + 1) 1)] [.row 1 ((L ++ [m % 2]).map encI) 1])) (e := .normal) (ob := [∀ e ∈ ((L ++ [m % 2]).map encI : List AV), belowV 1 e = true, (iV (m.tmod 2) : AV) = (iV (m % 2) : AV), (2 : Int) ≠ 0, ((L.map encI).take L.length ++ [iV (m % 2)] : List AV) = (L ++ [m % 2]).map encI, (2 * (L.length + ([iV (m % 2)] : List AV).length) + 1024) * 8 ≤ 2 ^ 48, ∀ y ∈ ([iV (m % 2)] : List AV), (cellsOf y).length = 1 ∧ ∀ c ∈ cellsOf y, isCell c = true, (iV (IntKind.wrap .i64 (m.tdiv 2)) : AV) = (iV (m / 2) : AV), (2 : Int) ≠ 0]) ⟨below_ids (ids_map (fun _ => rfl) _), iI (Int.tmod_eq_emod_of_nonneg (by omega)), (by decide), rowApp (x := m % 2) rfl, (by simp; omega), (by simp [cellsOf, isCell]), iW ((congrArg _ (Int.tdiv_eq_ediv_of_nonneg (by omega))).trans (w64 (by omega) (by omega))), (by decide), trivial⟩ ?_
    exact loop_g [0, 2, 3] 1 ((m / 2).toNat) (by omega) rfl (s' := (stX .any 15 [(0, iV (m / 2)), (2, .nilslice), (3, .slice 0 0 (L.length + 1) 0)] [.row 1 ((L ++ [m % 2]).map encI) 0])) (ob := [∀ e ∈ ((L ++ [m % 2]).map encI : List AV), idsOf e = []]) (by kernel_rfl) ⟨ids_map (fun _ => rfl) _, trivial⟩ (⟨(L ++ [m % 2]), (m / 2), (by omega), (by omega), bits_step hL (by omega), rfl, by first | rfl | (rw [List.length_append]; rfl)⟩)
  · refine Ok.ev2 400 [.d, .v (.bool false)] [0, 2, 3, 6] 1 (st' := (stX .any 15 [(0, iV m), (2, .nilslice), (3, .slice 0 0 L.length 0), (6, .bool false)] [.row 1 (L.map encI) 0])) (e := .normal) (ob := [∀ e ∈ (L.map encI : List AV), belowV 1 e = true, (.bool (decide (m > 0)) : AV) = (.bool false : AV)]) ⟨below_ids (ids_map (fun _ => rfl) _), (bF q1), trivial⟩ ?_
    refine seq_n ?_
    refine Ok.ev2 400 [.d] [2, 3] 1 (st' := (stX .any 15 [(2, .nilslice), (3, .slice 0 0 L.length 0)] [.row 1 (L.map encI) 0])) (e := (.exit 0)) (ob := [∀ e ∈ (L.map encI : List AV), belowV 1 e = true]) ⟨below_ids (ids_map (fun _ => rfl) _), trivial⟩ ?_
    refine seq_e ?_
    refine loopg_e ?_
    refine blkQ_here ?_
    refine seq_n ?_
    refine Ok.ev2 400 [.d, .d] [2] 1 (st' := (stX .any 15 [(2, .slice 0 0 L.length 0)] [.row 1 (L.map encI) 0])) (e := .ret) (ob := [∀ e ∈ (L.map encI : List AV), belowV 1 e = true]) ⟨below_ids (ids_map (fun _ => rfl) _), trivial⟩ ?_
    exact ⟨.inr rfl, finF_of (ob := [((L.map encI : List AV).drop 0).take L.length = (bl n).map encI, ∀ e ∈ (L.map encI : List AV), plainE e]) (by kernel_rfl) ⟨(by rw [rowOut rfl, bits_end hL (by omega)]), pl_map (fun _ => rfl) (fun _ => rfl) _, trivial⟩⟩

theorem rb_at {a : List Int} {i : Int} (h : 0 ≤ i) (hl : a.length ≤ 1000000) : FnF Try.prog 99 true [.list (a.map encI), .int .i64 i] (.int .i64 (a.getD i.toNat 0)) := by
  by_cases q1 : i < (a.length : Int)
  · exact fn_e2 Try.func99 400 [.d, .d, .d, .v (iV (a.length : Int)), .v (.bool true), .d, .d, .d, .e (encI (a.getD i.toNat 0)), .d, .d] (ob := [(iV (((a.map encI).length : Nat) : Int) : AV) = (iV (a.length : Int) : AV), (.bool (decide (i < (a.length : Int))) : AV) = (.bool true : AV), 0 ≤ i, (a.map encI)[i.toNat]? = some (encI (a.getD i.toNat 0)), ((a.getD i.toNat 0) : Int) = a.getD i.toNat 0]) ⟨len_map, (bT q1), (by omega), elemN (by omega) (by omega), rfl, trivial⟩
  · exact fn_e2 Try.func99 400 [.d, .d, .d, .v (iV (a.length : Int)), .v (.bool false), .d, .d] (ob := [(iV (((a.map encI).length : Nat) : Int) : AV) = (iV (a.length : Int) : AV), (.bool (decide (i < (a.length : Int))) : AV) = (.bool false : AV), (0 : Int) = a.getD i.toNat 0]) ⟨len_map, (bF q1), (by first | rfl | (exact (getD_end a _ (by omega)).symm)), trivial⟩

def oP_rb_cut (a : List Int) (n : Nat) : List Prop := [(.list (((a.map encI).take ((n : Nat) : Int).toNat).drop 0) : AV) = (.list ((a.take (((n : Nat) : Int).toNat)).map encI) : AV), 0 ≤ (0 : Int) ∧ (0 : Int) ≤ ((n : Nat) : Int) ∧ ((n : Nat) : Int) ≤ ((a.map encI : List AV).length : Int), ∀ x ∈ (a.map encI : List AV), (cellsOf x).length = 1]
def oP1_rb_cut (a : List Int) (n : Nat) : List Prop := [(.bool (decide (((n : Nat) : Int) > 0)) : AV) = (.bool true : AV), (iV (IntKind.wrap .i64 (((n : Nat) : Int) - 1)) : AV) = (iV (((n : Nat) : Int) - 1) : AV), 0 ≤ ((n : Nat) : Int) - 1, (a.map encI)[(((n : Nat) : Int) - 1).toNat]? = some (encI (a.getD (n - 1) 0))]
theorem rb_cut {a : List Int} (h : B01 a) (hl : a.length ≤ 1000000) : FnF Try.prog 95 false [.list (a.map encI)] (.list ((bl (val a)).map encI)) := by
  refine fn_walkF Try.func95 (by kernel_rfl) (by kernel_rfl) (by kernel_rfl) (st := (stX (.tuple []) 21 [(0, .list (a.map encI))] [])) rfl ?_
  refine Ok.sq [] ?_
  refine Ok.ev2 400 [.d] [0, 2, 3] 0 (st' := (stX .any 21 [(0, .list (a.map encI)), (2, .nilslice), (3, .tuple [])] [])) (e := .normal) (ob := []) trivial ?_
  refine seq_n ?_
  refine Ok.sq [true] ?_
  refine Ok.ev2 400 [.d, .v (iV (a.length : Int)), .d] [0, 2, 3] 0 (st' := (stX .any 21 [(0, .list (a.map encI)), (2, .nilslice), (3, iV (a.length : Int))] [])) (e := .normal) (ob := [(iV (((a.map encI).length : Nat) : Int) : AV) = (iV (a.length : Int) : AV)]) ⟨len_map, trivial⟩ ?_
  refine seq_n ?_
  refine Ok.sq [true, true] ?_
  refine Ok.bk [true, true, false] 0 ?_
  refine Ok.loopB [true, true, false, false] (by kernel_rfl) (fun m_ s_ => ∃ (n : Nat), (n ≤ a.length) ∧ (∀ k, n ≤ k → a.getD k 0 = 0) ∧ m_ = n + 1 ∧ s_ = (stX .any 21 [(0, .list (a.map encI)), (2, .nilslice), (3, iV ((n : Nat) : Int))] [])) (a.length + 1) (⟨a.length, (by omega), getD_end a, rfl, rfl⟩) ?_
  rintro m_ s_ ⟨n, hn, hz, rfl, rfl⟩
  refine Ok.sq [true, true, false, false, false] ?_
  refine Ok.sq [true, true, false, false, false, false] ?_
  by_cases q1 : ((n : Nat) : Int) > 0
  · by_cases q2 : (a.getD (n - 1) 0) = 0
    · refine Ok.ev2 400 [.d, .v (.bool true), .d, .d, .d, .v (iV (((n : Nat) : Int) - 1)), .e (encI (a.getD (n - 1) 0)), .d, .v (.bool true), .d] [0, 2, 3, 15] 0 (st' := (stX .any 21 [(0, .list (a.map encI)), (2, .nilslice), (3, iV ((n : Nat) : Int)), (15, .bool true)] [])) (e := .normal) (ob := ((oP1_rb_cut a n) ++ [(.bool ((a.getD (n - 1) 0) == 0) : AV) = (.bool true : AV)])) ⟨(bT q1), iW (w64 (by omega) (by omega)), (by omega), elemN (by omega) (by omega), (eT q2), trivial⟩ ?_
      refine seq_n ?_
      refine Ok.ev2 400 [.d] [0, 2, 3] 0 (st' := (stX .any 21 [(0, .list (a.map encI)), (2, .nilslice), (3, iV ((n : Nat) : Int))] [])) (e := .normal) (ob := []) trivial ?_
      refine seq_n ?_
      refine Ok.ev2 400 [.d, .v (iV (((n : Nat) : Int) - 1)), .d] [0, 2, 3] 0 (st' := (stX .any 21 [(0, .list (a.map encI)), (2, .nilslice), (3, iV (((n : Nat) : Int) - 1))] [])) (e := .normal) (ob := [(iV (IntKind.wrap .i64 (((n : Nat) : Int) - 1)) : AV) = (iV (((n : Nat) : Int) - 1) : AV)]) ⟨iW (w64 (by omega) (by omega)), trivial⟩ ?_
      exact loop_g [0, 2, 3] 0 ((n - 1) + 1) (by omega) rfl (s' := (stX .any 21 [(0, .list (a.map encI)), (2, .nilslice), (3, iV (((n : Nat) : Int) - 1))] [])) (ob := []) (by kernel_rfl) trivial (⟨(n - 1), (by omega), cut_step hz (by omega), rfl, by first | rfl | (rw [show (((n - 1 : Nat)) : Int) = ((n : Nat) : Int) - 1 by omega])⟩)
    · refine Ok.ev2 400 [.d, .v (.bool true), .d, .d, .d, .v (iV (((n : Nat) : Int) - 1)), .e (encI (a.getD (n - 1) 0)), .d, .v (.bool false), .d] [0, 2, 3, 15] 0 (st' := (stX .any 21 [(0, .list (a.map encI)), (2, .nilslice), (3, iV ((n : Nat) : Int)), (15, .bool false)] [])) (e := .normal) (ob := ((oP1_rb_cut a n) ++ [(.bool ((a.getD (n - 1) 0) == 0) : AV) = (.bool false : AV)])) ⟨(bT q1), iW (w64 (by omega) (by omega)), (by omega), elemN (by omega) (by omega), (eF q2), trivial⟩ ?_
      refine seq_n ?_
      refine Ok.ev2 400 [.d] [0, 2, 3] 0 (st' := (stX .any 21 [(0, .list (a.map encI)), (2, .nilslice), (3, iV ((n : Nat) : Int))] [])) (e := (.exit 0)) (ob := []) trivial ?_
      refine seq_e ?_
      refine loopg_e ?_
      refine blkQ_here ?_
      refine seq_n ?_
      refine Ok.ev2 400 [.d, .d, .v (.list ((a.take (((n : Nat) : Int).toNat)).map encI)), .d] [2] 0 (st' := (stX .any 21 [(2, .list ((a.take (((n : Nat) : Int).toNat)).map encI))] [])) (e := .ret) (ob := (oP_rb_cut a n)) ⟨slice_mapL, (by first | (simp; done) | omega | (simp; omega)), cells_map (f := encI) (fun _ => rfl) _, trivial⟩ ?_
      exact ⟨.inr rfl, finF_of (ob := [((a.take (((n : Nat) : Int).toNat)).map encI : List AV) = (bl (val a)).map encI]) (by kernel_rfl) ⟨(by rw [Int.toNat_natCast, cut_is h hn hz (by omega)]), trivial⟩⟩
  · refine Ok.ev2 400 [.d, .v (.bool false), .d, .d, .d, .d, .d, .d, .d, .d] [0, 2, 3, 15] 0 (st' := (stX .any 21 [(0, .list (a.map encI)), (2, .nilslice), (3, iV ((n : Nat) : Int)), (15, .bool false)] [])) (e := .normal) (ob := [(.bool (decide (((n : Nat) : Int) > 0)) : AV) = (.bool false : AV)]) ⟨(bF q1), trivial⟩ ?_
    refine seq_n ?_
    refine Ok.ev2 400 [.d] [0, 2, 3] 0 (st' := (stX .any 21 [(0, .list (a.map encI)), (2, .nilslice), (3, iV ((n : Nat) : Int))] [])) (e := (.exit 0)) (ob := []) trivial ?_
    refine seq_e ?_
    refine loopg_e ?_
    refine blkQ_here ?_
    refine seq_n ?_
    refine Ok.ev2 400 [.d, .d, .v (.list ((a.take (((n : Nat) : Int).toNat)).map encI)), .d] [2] 0 (st' := (stX .any 21 [(2, .list ((a.take (((n : Nat) : Int).toNat)).map encI))] [])) (e := .ret) (ob := (oP_rb_cut a n)) ⟨slice_mapL, (by first | (simp; done) | omega | (simp; omega)), cells_map (f := encI) (fun _ => rfl) _, trivial⟩ ?_
    exact ⟨.inr rfl, finF_of (ob := [((a.take (((n : Nat) : Int).toNat)).map encI : List AV) = (bl (val a)).map encI]) (by kernel_rfl) ⟨(by rw [Int.toNat_natCast, cut_is h hn hz (by omega)]), trivial⟩⟩

def sP_rb_plus (a : List Int) (b : List Int) : List (Nat × AV) := [(0, .list (a.map encI)), (1, .list (b.map encI)), (4, .nilslice)]
def uP_rb_plus (a : List Int) (b : List Int) (L : List Int) (c : Int) (i : Nat) : List Sup := [.d, .d, .f true (iV (a.getD i 0)), .d, .d, .f true (iV (b.getD i 0)), .v (iV ((a.getD i 0) + (b.getD i 0))), .d, .v (iV (((a.getD i 0) + (b.getD i 0)) + c)), .d, .d, .d, .v (iV ((((a.getD i 0) + (b.getD i 0)) + c) % 2)), .d, .r ((L ++ [(a.getD i 0 + b.getD i 0 + c) % 2]).map encI), .d, .d, .v (iV ((((a.getD i 0) + (b.getD i 0)) + c) / 2)), .d, .d, .v (iV (((i : Nat) : Int) + 1)), .d]
def oP_rb_plus (a : List Int) (b : List Int) (L : List Int) (c : Int) (i : Nat) : List Prop := [∀ e ∈ ((L ++ [(a.getD i 0 + b.getD i 0 + c) % 2]).map encI : List AV), belowV 1 e = true, FnF Try.prog 99 true [.list (a.map encI), iV ((i : Nat) : Int)] (iV (a.getD i 0)), FnF Try.prog 99 true [.list (b.map encI), iV ((i : Nat) : Int)] (iV (b.getD i 0)), (iV (IntKind.wrap .i64 ((a.getD i 0) + (b.getD i 0))) : AV) = (iV ((a.getD i 0) + (b.getD i 0)) : AV), (iV (IntKind.wrap .i64 (((a.getD i 0) + (b.getD i 0)) + c)) : AV) = (iV (((a.getD i 0) + (b.getD i 0)) + c) : AV), (iV ((((a.getD i 0) + (b.getD i 0)) + c).tmod 2) : AV) = (iV ((((a.getD i 0) + (b.getD i 0)) + c) % 2) : AV), (2 : Int) ≠ 0, ((L.map encI).take L.length ++ [iV ((((a.getD i 0) + (b.getD i 0)) + c) % 2)] : List AV) = (L ++ [(a.getD i 0 + b.getD i 0 + c) % 2]).map encI, (2 * (L.length + ([iV ((((a.getD i 0) + (b.getD i 0)) + c) % 2)] : List AV).length) + 1024) * 8 ≤ 2 ^ 48, ∀ y ∈ ([iV ((((a.getD i 0) + (b.getD i 0)) + c) % 2)] : List AV), (cellsOf y).length = 1 ∧ ∀ c ∈ cellsOf y, isCell c = true, (iV (IntKind.wrap .i64 ((((a.getD i 0) + (b.getD i 0)) + c).tdiv 2)) : AV) = (iV ((((a.getD i 0) + (b.getD i 0)) + c) / 2) : AV), (2 : Int) ≠ 0, (iV (IntKind.wrap .i64 (((i : Nat) : Int) + 1)) : AV) = (iV (((i : Nat) : Int) + 1) : AV)]
def oP1_rb_plus (a : List Int) (b : List Int) (L : List Int) (i : Nat) : List Prop := [∀ e ∈ (L.map encI : List AV), belowV 1 e = true, (iV (((a.map encI).length : Nat) : Int) : AV) = (iV (a.length : Int) : AV), (.bool (decide (((i : Nat) : Int) ≤ (a.length : Int))) : AV) = (.bool false : AV), (iV (((b.map encI).length : Nat) : Int) : AV) = (iV (b.length : Int) : AV)]
theorem rb_plus {a b : List Int} (ha : B01 a) (hb : B01 b) (hla : a.length ≤ 1000) (hlb : b.length ≤ 1000) : FnF Try.prog 92 false [.list (a.map encI), .list (b.map encI)] (.list ((bl (val a + val b)).map encI)) := by
  refine fn_walkF Try.func92 (by kernel_rfl) (by kernel_rfl) (by kernel_rfl) (st := (stX (.tuple []) 40 [(0, .list (a.map encI)), (1, .list (b.map encI))] [])) rfl ?_
  refine Ok.sq [] ?_
  refine Ok.ev2 400 [.d] [0, 1, 4, 5] 0 (st' := (stX .any 40 ((sP_rb_plus a b) ++ [(5, .tuple [])]) [])) (e := .normal) (ob := []) trivial ?_
  refine seq_n ?_
  refine Ok.sq [true] ?_
  refine Ok.ev2 400 [.d, .d] [0, 1, 4, 5, 6] 1 (st' := (stX .any 40 ((sP_rb_plus a b) ++ [(5, .slice 0 0 0 0)]) [.row 1 [] 0])) (e := .normal) (ob := [∀ e ∈ ([] : List AV), belowV 1 e = true]) ⟨(by simp [belowV, idsOf, idsL]), trivial⟩ ?_
  refine seq_n ?_
  refine Ok.sq [true, true] ?_
  refine Ok.ev2 400 [.d] [0, 1, 4, 5, 6, 7] 1 (st' := (stX .any 40 ((sP_rb_plus a b) ++ [(5, .slice 0 0 0 0), (6, iV 0)]) [.row 1 [] 0])) (e := .normal) (ob := [∀ e ∈ ([] : List AV), belowV 1 e = true]) ⟨(by simp [belowV, idsOf, idsL]), trivial⟩ ?_
  refine seq_n ?_
  refine Ok.sq [true, true, true] ?_
  refine Ok.sq [true, true, true, false] ?_
  refine Ok.ev2 400 [.d] [0, 1, 4, 5, 6, 7] 1 (st' := (stX .any 40 ((sP_rb_plus a b) ++ [(5, .slice 0 0 0 0), (6, iV 0), (7, iV 0)]) [.row 1 [] 0])) (e := .normal) (ob := [∀ e ∈ ([] : List AV), belowV 1 e = true]) ⟨(by simp [belowV, idsOf, idsL]), trivial⟩ ?_
  refine seq_n ?_
  refine Ok.bk [true, true, true, false, true] 0 ?_
  refine Ok.loopB [true, true, true, false, true, false] (by kernel_rfl) (fun m_ s_ => ∃ (L : List Int) (c : Int) (i : Nat), (0 ≤ c ∧ c ≤ 1) ∧ (i ≤ a.length + b.length + 1) ∧ (L.length = i) ∧ (B01 L) ∧ (val L + 2 ^ i * (c + val (a.drop i) + val (b.drop i)) = val a + val b) ∧ m_ = a.length + b.length + 2 - i ∧ s_ = (stX .any 40 ((sP_rb_plus a b) ++ [(5, .slice 0 0 L.length 0), (6, iV c), (7, iV ((i : Nat) : Int))]) [.row 1 (L.map encI) 0])) (a.length + b.length + 2 - 0) (⟨([] : List Int), 0, 0, (by omega), (by omega), rfl, (fun x hx => by cases hx), (by simp [val]), rfl, rfl⟩) ?_
  rintro m_ s_ ⟨L, c, i, hc, hi, hLi, h01, hs, rfl, rfl⟩
  have ka : 0 ≤ a.getD i 0 ∧ a.getD i 0 ≤ 1 := by have := getD_01 ha i; omega
  have kb : 0 ≤ b.getD i 0 ∧ b.getD i 0 ≤ 1 := by have := getD_01 hb i; omega
  refine Ok.sq [true, true, true, false, true, false, false] ?_
  refine Ok.sq [true, true, true, false, true, false, false, false] ?_
  by_cases q1 : ((i : Nat) : Int) ≤ (a.length : Int)
  · refine Ok.ev2 400 [.d, .d, .v (iV (a.length : Int)), .v (.bool true), .d, .d, .d, .d, .d, .d] [0, 1, 4, 5, 6, 7, 19] 1 (st' := (stX .any 40 ((sP_rb_plus a b) ++ [(5, .slice 0 0 L.length 0), (6, iV c), (7, iV ((i : Nat) : Int)), (19, .bool true)]) [.row 1 (L.map encI) 0])) (e := .normal) (ob := [∀ e ∈ (L.map encI : List AV), belowV 1 e = true, (iV (((a.map encI).length : Nat) : Int) : AV) = (iV (a.length : Int) : AV), (.bool (decide (((i : Nat) : Int) ≤ (a.length : Int))) : AV) = (.bool true : AV)]) ⟨below_ids (ids_map (fun _ => rfl) _), len_map, (bT q1), trivial⟩ ?_
    refine seq_n ?_
    refine Ok.ev2 400 [.d] [0, 1, 4, 5, 6, 7] 1 (st' := (stX .any 40 ((sP_rb_plus a b) ++ [(5, .slice 0 0 L.length 0), (6, iV c), (7, iV ((i : Nat) : Int))]) [.row 1 (L.map encI) 0])) (e := .normal) (ob := [∀ e ∈ (L.map encI : List AV), belowV 1 e = true]) ⟨below_ids (ids_map (fun _ => rfl) _), trivial⟩ ?_
    refine seq_n ?_
    refine Ok.ev2 400 (uP_rb_plus a b L c i) [0, 1, 4, 5, 6, 7] 1 (st' := (stX .any 40 ((sP_rb_plus a b) ++ [(5, .slice 0 0 (L.length + 1) 1), (6, iV ((((a.getD i 0) + (b.getD i 0)) + c) / 2)), (7, iV (((i : Nat) : Int) + 1))]) [.row 1 ((L ++ [(a.getD i 0 + b.getD i 0 + c) % 2]).map encI) 1])) (e := .normal) (ob := (oP_rb_plus a b L c i)) ⟨below_ids (ids_map (fun _ => rfl) _), (by have h := rb_at (a := a) (i := ((i : Nat) : Int)) (by omega) (by omega); rw [show (((i : Nat) : Int)).toNat = i by omega] at h; exact h), (by have h := rb_at (a := b) (i := ((i : Nat) : Int)) (by omega) (by omega); rw [show (((i : Nat) : Int)).toNat = i by omega] at h; exact h), iW (w64 (by omega) (by omega)), iW (w64 (by omega) (by omega)), iI (Int.tmod_eq_emod_of_nonneg (by omega)), (by decide), rowApp (x := (a.getD i 0 + b.getD i 0 + c) % 2) rfl, (by simp; omega), (by simp [cellsOf, isCell]), iW ((congrArg _ (Int.tdiv_eq_ediv_of_nonneg (by omega))).trans (w64 (by omega) (by omega))), (by decide), iW (w64 (by omega) (by omega)), trivial⟩ ?_
    exact loop_g [0, 1, 4, 5, 6, 7] 1 (a.length + b.length + 2 - (i + 1)) (by omega) rfl (s' := (stX .any 40 ((sP_rb_plus a b) ++ [(5, .slice 0 0 (L.length + 1) 0), (6, iV ((((a.getD i 0) + (b.getD i 0)) + c) / 2)), (7, iV (((i : Nat) : Int) + 1))]) [.row 1 ((L ++ [(a.getD i 0 + b.getD i 0 + c) % 2]).map encI) 0])) (ob := [∀ e ∈ ((L ++ [(a.getD i 0 + b.getD i 0 + c) % 2]).map encI : List AV), idsOf e = []]) (by kernel_rfl) ⟨ids_map (fun _ => rfl) _, trivial⟩ (⟨(L ++ [(a.getD i 0 + b.getD i 0 + c) % 2]), ((a.getD i 0 + b.getD i 0 + c) / 2), (i + 1), (by omega), (by omega), (by simp; omega), b01_app h01 (by omega), plus_step hLi hs rfl rfl, rfl, by first | rfl | (rw [List.length_append]; rfl)⟩)
  · by_cases q2 : ((i : Nat) : Int) ≤ (b.length : Int)
    · refine Ok.ev2 400 [.d, .d, .v (iV (a.length : Int)), .v (.bool false), .d, .d, .d, .v (iV (b.length : Int)), .v (.bool true), .d] [0, 1, 4, 5, 6, 7, 19] 1 (st' := (stX .any 40 ((sP_rb_plus a b) ++ [(5, .slice 0 0 L.length 0), (6, iV c), (7, iV ((i : Nat) : Int)), (19, .bool true)]) [.row 1 (L.map encI) 0])) (e := .normal) (ob := ((oP1_rb_plus a b L i) ++ [(.bool (decide (((i : Nat) : Int) ≤ (b.length : Int))) : AV) = (.bool true : AV)])) ⟨below_ids (ids_map (fun _ => rfl) _), len_map, (bF q1), len_map, (bT q2), trivial⟩ ?_
      refine seq_n ?_
      refine Ok.ev2 400 [.d] [0, 1, 4, 5, 6, 7] 1 (st' := (stX .any 40 ((sP_rb_plus a b) ++ [(5, .slice 0 0 L.length 0), (6, iV c), (7, iV ((i : Nat) : Int))]) [.row 1 (L.map encI) 0])) (e := .normal) (ob := [∀ e ∈ (L.map encI : List AV), belowV 1 e = true]) ⟨below_ids (ids_map (fun _ => rfl) _), trivial⟩ ?_
      refine seq_n ?_
      refine Ok.ev2 400 (uP_rb_plus a b L c i) [0, 1, 4, 5, 6, 7] 1 (st' := (stX .any 40 ((sP_rb_plus a b) ++ [(5, .slice 0 0 (L.length + 1) 1), (6, iV ((((a.getD i 0) + (b.getD i 0)) + c) / 2)), (7, iV (((i : Nat) : Int) + 1))]) [.row 1 ((L ++ [(a.getD i 0 + b.getD i 0 + c) % 2]).map encI) 1])) (e := .normal) (ob := (oP_rb_plus a b L c i)) ⟨below_ids (ids_map (fun _ => rfl) _), (by have h := rb_at (a := a) (i := ((i : Nat) : Int)) (by omega) (by omega); rw [show (((i : Nat) : Int)).toNat = i by omega] at h; exact h), (by have h := rb_at (a := b) (i := ((i : Nat) : Int)) (by omega) (by omega); rw [show (((i : Nat) : Int)).toNat = i by omega] at h; exact h), iW (w64 (by omega) (by omega)), iW (w64 (by omega) (by omega)), iI (Int.tmod_eq_emod_of_nonneg (by omega)), (by decide), rowApp (x := (a.getD i 0 + b.getD i 0 + c) % 2) rfl, (by simp; omega), (by simp [cellsOf, isCell]), iW ((congrArg _ (Int.tdiv_eq_ediv_of_nonneg (by omega))).trans (w64 (by omega) (by omega))), (by decide), iW (w64 (by omega) (by omega)), trivial⟩ ?_
      exact loop_g [0, 1, 4, 5, 6, 7] 1 (a.length + b.length + 2 - (i + 1)) (by omega) rfl (s' := (stX .any 40 ((sP_rb_plus a b) ++ [(5, .slice 0 0 (L.length + 1) 0), (6, iV ((((a.getD i 0) + (b.getD i 0)) + c) / 2)), (7, iV (((i : Nat) : Int) + 1))]) [.row 1 ((L ++ [(a.getD i 0 + b.getD i 0 + c) % 2]).map encI) 0])) (ob := [∀ e ∈ ((L ++ [(a.getD i 0 + b.getD i 0 + c) % 2]).map encI : List AV), idsOf e = []]) (by kernel_rfl) ⟨ids_map (fun _ => rfl) _, trivial⟩ (⟨(L ++ [(a.getD i 0 + b.getD i 0 + c) % 2]), ((a.getD i 0 + b.getD i 0 + c) / 2), (i + 1), (by omega), (by omega), (by simp; omega), b01_app h01 (by omega), plus_step hLi hs rfl rfl, rfl, by first | rfl | (rw [List.length_append]; rfl)⟩)
    · refine Ok.ev2 400 [.d, .d, .v (iV (a.length : Int)), .v (.bool false), .d, .d, .d, .v (iV (b.length : Int)), .v (.bool false), .d] [0, 1, 4, 5, 6, 7, 19] 1 (st' := (stX .any 40 ((sP_rb_plus a b) ++ [(5, .slice 0 0 L.length 0), (6, iV c), (7, iV ((i : Nat) : Int)), (19, .bool false)]) [.row 1 (L.map encI) 0])) (e := .normal) (ob := ((oP1_rb_plus a b L i) ++ [(.bool (decide (((i : Nat) : Int) ≤ (b.length : Int))) : AV) = (.bool false : AV)])) ⟨below_ids (ids_map (fun _ => rfl) _), len_map, (bF q1), len_map, (bF q2), trivial⟩ ?_
      refine seq_n ?_
      refine Ok.ev2 400 [.d] [4, 5] 1 (st' := (stX .any 40 [(4, .nilslice), (5, .slice 0 0 L.length 0)] [.row 1 (L.map encI) 0])) (e := (.exit 0)) (ob := [∀ e ∈ (L.map encI : List AV), belowV 1 e = true]) ⟨below_ids (ids_map (fun _ => rfl) _), trivial⟩ ?_
      refine seq_e ?_
      refine loopg_e ?_
      refine blkQ_here ?_
      refine seq_n ?_
      refine Ok.sq [true, true, true, true] ?_
      refine Ok.frz [4, 5] 0 (st' := (stX .any 40 [(4, .nilslice), (5, .list (((L.map encI).drop 0).take L.length))] [])) (ob := [∀ e ∈ (L.map encI : List AV), idsOf e = []]) (by kernel_rfl) ⟨ids_map (fun _ => rfl) _, trivial⟩ ?_
      refine Ok.told (st2 := (stX .any 40 [(4, .nilslice), (5, .list (L.map encI))] [])) (by rw [rowOut (by first | rfl | omega | (simp; done) | (simp; done) | (simp; omega))]) ?_
      refine Ok.ev2 400 [.d, .f false (.list ((bl (val L)).map encI)), .d] [4] 0 (st' := (stX .any 40 [(4, .list ((bl (val L)).map encI))] [])) (e := .normal) (ob := [FnF Try.prog 95 false [.list (L.map encI)] (.list ((bl (val L)).map encI))]) ⟨rb_cut (a := L) h01 (by omega), trivial⟩ ?_
      refine seq_n ?_
      refine Ok.ev2 400 [] [4] 0 (st' := (stX .any 40 [(4, .list ((bl (val L)).map encI))] [])) (e := .ret) (ob := []) trivial ?_
      exact ⟨.inr rfl, finF_of (ob := [((bl (val L)).map encI : List AV) = (bl (val a + val b)).map encI]) (by kernel_rfl) ⟨(by rw [plus_end h01 ha hb hLi (by omega) rfl hs (by omega) (by omega)]), trivial⟩⟩

def sP_rb_minus (a : List Int) (b : List Int) : List (Nat × AV) := [(0, .list (a.map encI)), (1, .list (b.map encI)), (4, .nilslice)]
theorem rb_minus {a b : List Int} (ha : B01 a) (hb : B01 b) (hla : a.length ≤ 1000) (hlb : b.length ≤ 1000) (hge : val b ≤ val a) : FnF Try.prog 94 false [.list (a.map encI), .list (b.map encI)] (.list ((bl (val a - val b)).map encI)) := by
  refine fn_walkF Try.func94 (by kernel_rfl) (by kernel_rfl) (by kernel_rfl) (st := (stX (.tuple []) 35 [(0, .list (a.map encI)), (1, .list (b.map encI))] [])) rfl ?_
  refine Ok.sq [] ?_
  refine Ok.ev2 400 [.d] [0, 1, 4, 5] 0 (st' := (stX .any 35 ((sP_rb_minus a b) ++ [(5, .tuple [])]) [])) (e := .normal) (ob := []) trivial ?_
  refine seq_n ?_
  refine Ok.sq [true] ?_
  refine Ok.ev2 400 [.d, .d] [0, 1, 4, 5, 6] 1 (st' := (stX .any 35 ((sP_rb_minus a b) ++ [(5, .slice 0 0 0 0)]) [.row 1 [] 0])) (e := .normal) (ob := [∀ e ∈ ([] : List AV), belowV 1 e = true]) ⟨(by simp [belowV, idsOf, idsL]), trivial⟩ ?_
  refine seq_n ?_
  refine Ok.sq [true, true] ?_
  refine Ok.ev2 400 [.d] [0, 1, 4, 5, 6, 7] 1 (st' := (stX .any 35 ((sP_rb_minus a b) ++ [(5, .slice 0 0 0 0), (6, iV 0)]) [.row 1 [] 0])) (e := .normal) (ob := [∀ e ∈ ([] : List AV), belowV 1 e = true]) ⟨(by simp [belowV, idsOf, idsL]), trivial⟩ ?_
  refine seq_n ?_
  refine Ok.sq [true, true, true] ?_
  refine Ok.sq [true, true, true, false] ?_
  refine Ok.ev2 400 [.d] [0, 1, 4, 5, 6, 7] 1 (st' := (stX .any 35 ((sP_rb_minus a b) ++ [(5, .slice 0 0 0 0), (6, iV 0), (7, iV 0)]) [.row 1 [] 0])) (e := .normal) (ob := [∀ e ∈ ([] : List AV), belowV 1 e = true]) ⟨(by simp [belowV, idsOf, idsL]), trivial⟩ ?_
  refine seq_n ?_
  refine Ok.bk [true, true, true, false, true] 0 ?_
  refine Ok.loopB [true, true, true, false, true, false] (by kernel_rfl) (fun m_ s_ => ∃ (L : List Int) (c : Int) (i : Nat), (0 ≤ c ∧ c ≤ 1) ∧ (i ≤ a.length) ∧ (L.length = i) ∧ (B01 L) ∧ (val L + 2 ^ i * (val (a.drop i) - val (b.drop i) - c) = val a - val b) ∧ m_ = a.length - i ∧ s_ = (stX .any 35 ((sP_rb_minus a b) ++ [(5, .slice 0 0 L.length 0), (6, iV c), (7, iV ((i : Nat) : Int))]) [.row 1 (L.map encI) 0])) (a.length - 0) (⟨([] : List Int), 0, 0, (by omega), (by omega), rfl, (fun x hx => by cases hx), (by simp [val]), rfl, rfl⟩) ?_
  rintro m_ s_ ⟨L, c, i, hc, hi, hLi, h01, hs, rfl, rfl⟩
  have ka : 0 ≤ a.getD i 0 ∧ a.getD i 0 ≤ 1 := by have := getD_01 ha i; omega
  have kb : 0 ≤ b.getD i 0 ∧ b.getD i 0 ≤ 1 := by have := getD_01 hb i; omega
  refine Ok.sq [true, true, true, false, true, false, false] ?_
  refine Ok.sq [true, true, true, false, true, false, false, false] ?_
  by_cases q1 : ((i : Nat) : Int) < (a.length : Int)
  · refine Ok.ev2 400 [.d, .d, .v (iV (a.length : Int)), .v (.bool true)] [0, 1, 4, 5, 6, 7, 13] 1 (st' := (stX .any 35 ((sP_rb_minus a b) ++ [(5, .slice 0 0 L.length 0), (6, iV c), (7, iV ((i : Nat) : Int)), (13, .bool true)]) [.row 1 (L.map encI) 0])) (e := .normal) (ob := [∀ e ∈ (L.map encI : List AV), belowV 1 e = true, (iV (((a.map encI).length : Nat) : Int) : AV) = (iV (a.length : Int) : AV), (.bool (decide (((i : Nat) : Int) < (a.length : Int))) : AV) = (.bool true : AV)]) ⟨below_ids (ids_map (fun _ => rfl) _), len_map, (bT q1), trivial⟩ ?_
    refine seq_n ?_
    refine Ok.ev2 400 [.d] [0, 1, 4, 5, 6, 7] 1 (st' := (stX .any 35 ((sP_rb_minus a b) ++ [(5, .slice 0 0 L.length 0), (6, iV c), (7, iV ((i : Nat) : Int))]) [.row 1 (L.map encI) 0])) (e := .normal) (ob := [∀ e ∈ (L.map encI : List AV), belowV 1 e = true]) ⟨below_ids (ids_map (fun _ => rfl) _), trivial⟩ ?_
    refine seq_n ?_
    refine Ok.sq [true, true, true, false, true, false, false, true] ?_
    refine Ok.bk [true, true, true, false, true, false, false, true, false] 1 ?_
    refine Ok.sq [true, true, true, false, true, false, false, true, false, false] ?_
    refine Ok.ev2 400 [.d, .d, .f true (iV (a.getD i 0)), .d, .d, .f true (iV (b.getD i 0)), .v (iV ((a.getD i 0) - (b.getD i 0))), .d, .v (iV (((a.getD i 0) - (b.getD i 0)) - c)), .d] [0, 1, 4, 5, 6, 7, 8] 1 (st' := (stX .any 35 ((sP_rb_minus a b) ++ [(5, .slice 0 0 L.length 0), (6, iV c), (7, iV ((i : Nat) : Int)), (8, iV (((a.getD i 0) - (b.getD i 0)) - c))]) [.row 1 (L.map encI) 0])) (e := .normal) (ob := [∀ e ∈ (L.map encI : List AV), belowV 1 e = true, FnF Try.prog 99 true [.list (a.map encI), iV ((i : Nat) : Int)] (iV (a.getD i 0)), FnF Try.prog 99 true [.list (b.map encI), iV ((i : Nat) : Int)] (iV (b.getD i 0)), (iV (IntKind.wrap .i64 ((a.getD i 0) - (b.getD i 0))) : AV) = (iV ((a.getD i 0) - (b.getD i 0)) : AV), (iV (IntKind.wrap .i64 (((a.getD i 0) - (b.getD i 0)) - c)) : AV) = (iV (((a.getD i 0) - (b.getD i 0)) - c) : AV)]) ⟨below_ids (ids_map (fun _ => rfl) _), (by have h := rb_at (a := a) (i := ((i : Nat) : Int)) (by omega) (by omega); rw [show (((i : Nat) : Int)).toNat = i by omega] at h; exact h), (by have h := rb_at (a := b) (i := ((i : Nat) : Int)) (by omega) (by omega); rw [show (((i : Nat) : Int)).toNat = i by omega] at h; exact h), iW (w64 (by omega) (by omega)), iW (w64 (by omega) (by omega)), trivial⟩ ?_
    refine seq_n ?_
    refine Ok.sq [true, true, true, false, true, false, false, true, false, false, true] ?_
    refine Ok.ev2 400 [.d] [0, 1, 4, 5, 6, 7, 8] 1 (st' := (stX .any 35 ((sP_rb_minus a b) ++ [(5, .slice 0 0 L.length 0), (6, iV 0), (7, iV ((i : Nat) : Int)), (8, iV (((a.getD i 0) - (b.getD i 0)) - c))]) [.row 1 (L.map encI) 0])) (e := .normal) (ob := [∀ e ∈ (L.map encI : List AV), belowV 1 e = true]) ⟨below_ids (ids_map (fun _ => rfl) _), trivial⟩ ?_
    refine seq_n ?_
    refine Ok.sq [true, true, true, false, true, false, false, true, false, false, true, true] ?_
    refine Ok.sq [true, true, true, false, true, false, false, true, false, false, true, true, false] ?_
    by_cases q2 : (((a.getD i 0) - (b.getD i 0)) - c) < 0
    · refine Ok.ev2 400 [.d, .v (.bool true)] [0, 1, 4, 5, 6, 7, 8, 26] 1 (st' := (stX .any 35 ((sP_rb_minus a b) ++ [(5, .slice 0 0 L.length 0), (6, iV 0), (7, iV ((i : Nat) : Int)), (8, iV (((a.getD i 0) - (b.getD i 0)) - c)), (26, .bool true)]) [.row 1 (L.map encI) 0])) (e := .normal) (ob := [∀ e ∈ (L.map encI : List AV), belowV 1 e = true, (.bool (decide ((((a.getD i 0) - (b.getD i 0)) - c) < 0)) : AV) = (.bool true : AV)]) ⟨below_ids (ids_map (fun _ => rfl) _), (bT q2), trivial⟩ ?_
      refine seq_n ?_
      refine Ok.ev2 400 [.d, .d, .v (iV ((((a.getD i 0) - (b.getD i 0)) - c) + 2)), .d, .d] [0, 1, 4, 5, 6, 7, 8] 1 (st' := (stX .any 35 ((sP_rb_minus a b) ++ [(5, .slice 0 0 L.length 0), (6, iV 1), (7, iV ((i : Nat) : Int)), (8, iV ((((a.getD i 0) - (b.getD i 0)) - c) + 2))]) [.row 1 (L.map encI) 0])) (e := .normal) (ob := [∀ e ∈ (L.map encI : List AV), belowV 1 e = true, (iV (IntKind.wrap .i64 ((((a.getD i 0) - (b.getD i 0)) - c) + 2)) : AV) = (iV ((((a.getD i 0) - (b.getD i 0)) - c) + 2) : AV)]) ⟨below_ids (ids_map (fun _ => rfl) _), iW (w64 (by omega) (by omega)), trivial⟩ ?_
      refine seq_n ?_
      refine Ok.ev2 400 [.d, .d, .d, .r ((L ++ [(((a.getD i 0) - (b.getD i 0)) - c) + 2]).map encI), .d] [0, 1, 4, 5, 6, 7] 1 (st' := (stX .any 35 ((sP_rb_minus a b) ++ [(5, .slice 0 0 (L.length + 1) 1), (6, iV 1), (7, iV ((i : Nat) : Int))]) [.row 1 ((L ++ [(((a.getD i 0) - (b.getD i 0)) - c) + 2]).map encI) 1])) (e := .normal) (ob := [∀ e ∈ ((L ++ [(((a.getD i 0) - (b.getD i 0)) - c) + 2]).map encI : List AV), belowV 1 e = true, ((L.map encI).take L.length ++ [iV ((((a.getD i 0) - (b.getD i 0)) - c) + 2)] : List AV) = (L ++ [(((a.getD i 0) - (b.getD i 0)) - c) + 2]).map encI, (2 * (L.length + ([iV ((((a.getD i 0) - (b.getD i 0)) - c) + 2)] : List AV).length) + 1024) * 8 ≤ 2 ^ 48, ∀ y ∈ ([iV ((((a.getD i 0) - (b.getD i 0)) - c) + 2)] : List AV), (cellsOf y).length = 1 ∧ ∀ c ∈ cellsOf y, isCell c = true]) ⟨below_ids (ids_map (fun _ => rfl) _), rowApp (x := (((a.getD i 0) - (b.getD i 0)) - c) + 2) rfl, (by simp; omega), (by simp [cellsOf, isCell]), trivial⟩ ?_
      refine blk_n ?_
      refine seq_n ?_
      refine Ok.ev2 400 [.d, .v (iV (((i : Nat) : Int) + 1)), .d] [0, 1, 4, 5, 6, 7] 1 (st' := (stX .any 35 ((sP_rb_minus a b) ++ [(5, .slice 0 0 (L.length + 1) 1), (6, iV 1), (7, iV (((i : Nat) : Int) + 1))]) [.row 1 ((L ++ [(((a.getD i 0) - (b.getD i 0)) - c) + 2]).map encI) 1])) (e := .normal) (ob := [∀ e ∈ ((L ++ [(((a.getD i 0) - (b.getD i 0)) - c) + 2]).map encI : List AV), belowV 1 e = true, (iV (IntKind.wrap .i64 (((i : Nat) : Int) + 1)) : AV) = (iV (((i : Nat) : Int) + 1) : AV)]) ⟨below_ids (ids_map (fun _ => rfl) _), iW (w64 (by omega) (by omega)), trivial⟩ ?_
      exact loop_g [0, 1, 4, 5, 6, 7] 1 (a.length - (i + 1)) (by omega) rfl (s' := (stX .any 35 ((sP_rb_minus a b) ++ [(5, .slice 0 0 (L.length + 1) 0), (6, iV 1), (7, iV (((i : Nat) : Int) + 1))]) [.row 1 ((L ++ [(((a.getD i 0) - (b.getD i 0)) - c) + 2]).map encI) 0])) (ob := [∀ e ∈ ((L ++ [(((a.getD i 0) - (b.getD i 0)) - c) + 2]).map encI : List AV), idsOf e = []]) (by kernel_rfl) ⟨ids_map (fun _ => rfl) _, trivial⟩ (⟨(L ++ [(((a.getD i 0) - (b.getD i 0)) - c) + 2]), 1, (i + 1), (by omega), (by omega), (by simp; omega), b01_app h01 (by omega), minus_step hLi hs (by omega), rfl, by first | rfl | (rw [List.length_append]; rfl)⟩)
    · refine Ok.ev2 400 [.d, .v (.bool false)] [0, 1, 4, 5, 6, 7, 8, 26] 1 (st' := (stX .any 35 ((sP_rb_minus a b) ++ [(5, .slice 0 0 L.length 0), (6, iV 0), (7, iV ((i : Nat) : Int)), (8, iV (((a.getD i 0) - (b.getD i 0)) - c)), (26, .bool false)]) [.row 1 (L.map encI) 0])) (e := .normal) (ob := [∀ e ∈ (L.map encI : List AV), belowV 1 e = true, (.bool (decide ((((a.getD i 0) - (b.getD i 0)) - c) < 0)) : AV) = (.bool false : AV)]) ⟨below_ids (ids_map (fun _ => rfl) _), (bF q2), trivial⟩ ?_
      refine seq_n ?_
      refine Ok.ev2 400 [.d] [0, 1, 4, 5, 6, 7, 8] 1 (st' := (stX .any 35 ((sP_rb_minus a b) ++ [(5, .slice 0 0 L.length 0), (6, iV 0), (7, iV ((i : Nat) : Int)), (8, iV (((a.getD i 0) - (b.getD i 0)) - c))]) [.row 1 (L.map encI) 0])) (e := .normal) (ob := [∀ e ∈ (L.map encI : List AV), belowV 1 e = true]) ⟨below_ids (ids_map (fun _ => rfl) _), trivial⟩ ?_
      refine seq_n ?_
      refine Ok.ev2 400 [.d, .d, .d, .r ((L ++ [((a.getD i 0) - (b.getD i 0)) - c]).map encI), .d] [0, 1, 4, 5, 6, 7] 1 (st' := (stX .any 35 ((sP_rb_minus a b) ++ [(5, .slice 0 0 (L.length + 1) 1), (6, iV 0), (7, iV ((i : Nat) : Int))]) [.row 1 ((L ++ [((a.getD i 0) - (b.getD i 0)) - c]).map encI) 1])) (e := .normal) (ob := [∀ e ∈ ((L ++ [((a.getD i 0) - (b.getD i 0)) - c]).map encI : List AV), belowV 1 e = true, ((L.map encI).take L.length ++ [iV (((a.getD i 0) - (b.getD i 0)) - c)] : List AV) = (L ++ [((a.getD i 0) - (b.getD i 0)) - c]).map encI, (2 * (L.length + ([iV (((a.getD i 0) - (b.getD i 0)) - c)] : List AV).length) + 1024) * 8 ≤ 2 ^ 48, ∀ y ∈ ([iV (((a.getD i 0) - (b.getD i 0)) - c)] : List AV), (cellsOf y).length = 1 ∧ ∀ c ∈ cellsOf y, isCell c = true]) ⟨below_ids (ids_map (fun _ => rfl) _), rowApp (x := ((a.getD i 0) - (b.getD i 0)) - c) rfl, (by simp; omega), (by simp [cellsOf, isCell]), trivial⟩ ?_
      refine blk_n ?_
      refine seq_n ?_
      refine Ok.ev2 400 [.d, .v (iV (((i : Nat) : Int) + 1)), .d] [0, 1, 4, 5, 6, 7] 1 (st' := (stX .any 35 ((sP_rb_minus a b) ++ [(5, .slice 0 0 (L.length + 1) 1), (6, iV 0), (7, iV (((i : Nat) : Int) + 1))]) [.row 1 ((L ++ [((a.getD i 0) - (b.getD i 0)) - c]).map encI) 1])) (e := .normal) (ob := [∀ e ∈ ((L ++ [((a.getD i 0) - (b.getD i 0)) - c]).map encI : List AV), belowV 1 e = true, (iV (IntKind.wrap .i64 (((i : Nat) : Int) + 1)) : AV) = (iV (((i : Nat) : Int) + 1) : AV)]) ⟨below_ids (ids_map (fun _ => rfl) _), iW (w64 (by omega) (by omega)), trivial⟩ ?_
      exact loop_g [0, 1, 4, 5, 6, 7] 1 (a.length - (i + 1)) (by omega) rfl (s' := (stX .any 35 ((sP_rb_minus a b) ++ [(5, .slice 0 0 (L.length + 1) 0), (6, iV 0), (7, iV (((i : Nat) : Int) + 1))]) [.row 1 ((L ++ [((a.getD i 0) - (b.getD i 0)) - c]).map encI) 0])) (ob := [∀ e ∈ ((L ++ [((a.getD i 0) - (b.getD i 0)) - c]).map encI : List AV), idsOf e = []]) (by kernel_rfl) ⟨ids_map (fun _ => rfl) _, trivial⟩ (⟨(L ++ [((a.getD i 0) - (b.getD i 0)) - c]), 0, (i + 1), (by omega), (by omega), (by simp; omega), b01_app h01 (by omega), minus_step hLi hs (by omega), rfl, by first | rfl | (rw [List.length_append]; rfl)⟩)
  · refine Ok.ev2 400 [.d, .d, .v (iV (a.length : Int)), .v (.bool false)] [0, 1, 4, 5, 6, 7, 13] 1 (st' := (stX .any 35 ((sP_rb_minus a b) ++ [(5, .slice 0 0 L.length 0), (6, iV c), (7, iV ((i : Nat) : Int)), (13, .bool false)]) [.row 1 (L.map encI) 0])) (e := .normal) (ob := [∀ e ∈ (L.map encI : List AV), belowV 1 e = true, (iV (((a.map encI).length : Nat) : Int) : AV) = (iV (a.length : Int) : AV), (.bool (decide (((i : Nat) : Int) < (a.length : Int))) : AV) = (.bool false : AV)]) ⟨below_ids (ids_map (fun _ => rfl) _), len_map, (bF q1), trivial⟩ ?_
    refine seq_n ?_
    refine Ok.ev2 400 [.d] [4, 5] 1 (st' := (stX .any 35 [(4, .nilslice), (5, .slice 0 0 L.length 0)] [.row 1 (L.map encI) 0])) (e := (.exit 0)) (ob := [∀ e ∈ (L.map encI : List AV), belowV 1 e = true]) ⟨below_ids (ids_map (fun _ => rfl) _), trivial⟩ ?_
    refine seq_e ?_
    refine loopg_e ?_
    refine blkQ_here ?_
    refine seq_n ?_
    refine Ok.sq [true, true, true, true] ?_
    refine Ok.frz [4, 5] 0 (st' := (stX .any 35 [(4, .nilslice), (5, .list (((L.map encI).drop 0).take L.length))] [])) (ob := [∀ e ∈ (L.map encI : List AV), idsOf e = []]) (by kernel_rfl) ⟨ids_map (fun _ => rfl) _, trivial⟩ ?_
    refine Ok.told (st2 := (stX .any 35 [(4, .nilslice), (5, .list (L.map encI))] [])) (by rw [rowOut (by first | rfl | omega | (simp; done) | (simp; done) | (simp; omega))]) ?_
    refine Ok.ev2 400 [.d, .f false (.list ((bl (val L)).map encI)), .d] [4] 0 (st' := (stX .any 35 [(4, .list ((bl (val L)).map encI))] [])) (e := .normal) (ob := [FnF Try.prog 95 false [.list (L.map encI)] (.list ((bl (val L)).map encI))]) ⟨rb_cut (a := L) h01 (by omega), trivial⟩ ?_
    refine seq_n ?_
    refine Ok.ev2 400 [] [4] 0 (st' := (stX .any 35 [(4, .list ((bl (val L)).map encI))] [])) (e := .ret) (ob := []) trivial ?_
    exact ⟨.inr rfl, finF_of (ob := [((bl (val L)).map encI : List AV) = (bl (val a - val b)).map encI]) (by kernel_rfl) ⟨(by rw [minus_end h01 ha hb hLi (by omega) rfl (by omega) hs (by omega)]), trivial⟩⟩

def sP_rb_compare (a : List Int) (b : List Int) : List (Nat × AV) := [(0, .list (a.map encI)), (1, .list (b.map encI))]
def oP_rb_compare (a : List Int) (b : List Int) (n : Nat) : List Prop := [FnF Try.prog 99 true [.list (a.map encI), iV (((n : Nat) : Int) - 1)] (iV (a.getD (n - 1) 0)), FnF Try.prog 99 true [.list (b.map encI), iV (((n : Nat) : Int) - 1)] (iV (b.getD (n - 1) 0))]
theorem rb_compare {a b : List Int} (ha : B01 a) (hb : B01 b) (hla : a.length ≤ 1000) (hlb : b.length ≤ 1000) : FnF Try.prog 93 true [.list (a.map encI), .list (b.map encI)] (.int .i64 (cmpB (val a) (val b))) := by
  refine fn_walkF Try.func93 (by kernel_rfl) (by kernel_rfl) (by kernel_rfl) (st := (stX (.tuple []) 30 (sP_rb_compare a b) [])) rfl ?_
  refine Ok.sq [] ?_
  refine Ok.ev2 400 [.d] [0, 1, 4, 5] 0 (st' := (stX .any 30 ((sP_rb_compare a b) ++ [(4, iV 0), (5, .tuple [])]) [])) (e := .normal) (ob := []) trivial ?_
  refine seq_n ?_
  refine Ok.sq [true] ?_
  refine Ok.sq [true, false] ?_
  refine Ok.ev2 400 [.d, .v (iV (a.length : Int)), .d, .v (iV (b.length : Int)), .d, .v (iV ((max (a.length : Int) (b.length : Int)) - 1)), .d] [0, 1, 5] 0 (st' := (stX .any 30 ((sP_rb_compare a b) ++ [(5, iV ((max (a.length : Int) (b.length : Int)) - 1))]) [])) (e := .normal) (ob := [(iV (((a.map encI).length : Nat) : Int) : AV) = (iV (a.length : Int) : AV), (iV (((b.map encI).length : Nat) : Int) : AV) = (iV (b.length : Int) : AV), (iV (IntKind.wrap .i64 ((max (a.length : Int) (b.length : Int)) - 1)) : AV) = (iV ((max (a.length : Int) (b.length : Int)) - 1) : AV)]) ⟨len_map, len_map, iW (w64 (by omega) (by omega)), trivial⟩ ?_
  refine seq_n ?_
  refine Ok.bk [true, false, true] 0 ?_
  refine Ok.loopB [true, false, true, false] (by kernel_rfl) (fun m_ s_ => ∃ (n : Nat), (n ≤ a.length + b.length) ∧ (val (a.drop n) = val (b.drop n)) ∧ m_ = n + 1 ∧ s_ = (stX .any 30 ((sP_rb_compare a b) ++ [(5, iV (((n : Nat) : Int) - 1))]) [])) ((max a.length b.length) + 1) (⟨(max a.length b.length), (by omega), (by rw [val_end a (by omega), val_end b (by omega)]), rfl, by first | rfl | (congr; omega) | (rw [show ((max a.length b.length : Nat) : Int) = max (a.length : Int) (b.length : Int) by omega])⟩) ?_
  rintro m_ s_ ⟨n, hn, hv, rfl, rfl⟩
  have ka : 0 ≤ a.getD (n - 1) 0 ∧ a.getD (n - 1) 0 ≤ 1 := by have := getD_01 ha (n - 1); omega
  have kb : 0 ≤ b.getD (n - 1) 0 ∧ b.getD (n - 1) 0 ≤ 1 := by have := getD_01 hb (n - 1); omega
  refine Ok.sq [true, false, true, false, false] ?_
  refine Ok.sq [true, false, true, false, false, false] ?_
  by_cases q1 : (((n : Nat) : Int) - 1) ≥ 0
  · refine Ok.ev2 400 [.d, .v (.bool true)] [0, 1, 4, 5, 13] 0 (st' := (stX .any 30 ((sP_rb_compare a b) ++ [(5, iV (((n : Nat) : Int) - 1)), (13, .bool true)]) [])) (e := .normal) (ob := [(.bool (decide ((((n : Nat) : Int) - 1) ≥ 0)) : AV) = (.bool true : AV)]) ⟨(bT q1), trivial⟩ ?_
    refine seq_n ?_
    refine Ok.ev2 400 [.d] [0, 1, 4, 5] 0 (st' := (stX .any 30 ((sP_rb_compare a b) ++ [(5, iV (((n : Nat) : Int) - 1))]) [])) (e := .normal) (ob := []) trivial ?_
    refine seq_n ?_
    refine Ok.sq [true, false, true, false, false, true] ?_
    refine Ok.bk [true, false, true, false, false, true, false] 1 ?_
    refine Ok.sq [true, false, true, false, false, true, false, false] ?_
    by_cases q2 : (a.getD (n - 1) 0) = (b.getD (n - 1) 0)
    · refine Ok.ev2 400 [.d, .d, .f true (iV (a.getD (n - 1) 0)), .d, .d, .f true (iV (b.getD (n - 1) 0)), .v (.bool false)] [0, 1, 4, 5, 22] 0 (st' := (stX .any 30 ((sP_rb_compare a b) ++ [(5, iV (((n : Nat) : Int) - 1)), (22, .bool false)]) [])) (e := .normal) (ob := ((oP_rb_compare a b n) ++ [(.bool ((a.getD (n - 1) 0) != (b.getD (n - 1) 0)) : AV) = (.bool false : AV)])) ⟨(by have h := rb_at (a := a) (i := ((n : Nat) : Int) - 1) (by omega) (by omega); rw [show (((n : Nat) : Int) - 1).toNat = n - 1 by omega] at h; exact h), (by have h := rb_at (a := b) (i := ((n : Nat) : Int) - 1) (by omega) (by omega); rw [show (((n : Nat) : Int) - 1).toNat = n - 1 by omega] at h; exact h), (nF q2), trivial⟩ ?_
      refine seq_n ?_
      refine Ok.ev2 400 [.d] [0, 1, 4, 5] 0 (st' := (stX .any 30 ((sP_rb_compare a b) ++ [(5, iV (((n : Nat) : Int) - 1))]) [])) (e := .normal) (ob := []) trivial ?_
      refine blk_n ?_
      refine seq_n ?_
      refine Ok.ev2 400 [.d, .v (iV ((((n : Nat) : Int) - 1) - 1)), .d] [0, 1, 5] 0 (st' := (stX .any 30 ((sP_rb_compare a b) ++ [(5, iV ((((n : Nat) : Int) - 1) - 1))]) [])) (e := .normal) (ob := [(iV (IntKind.wrap .i64 ((((n : Nat) : Int) - 1) - 1)) : AV) = (iV ((((n : Nat) : Int) - 1) - 1) : AV)]) ⟨iW (w64 (by omega) (by omega)), trivial⟩ ?_
      exact loop_g [0, 1, 5] 0 ((n - 1) + 1) (by omega) rfl (s' := (stX .any 30 ((sP_rb_compare a b) ++ [(5, iV ((((n : Nat) : Int) - 1) - 1))]) [])) (ob := []) (by kernel_rfl) trivial (⟨(n - 1), (by omega), cmp_down (i := n - 1) (by rw [show n - 1 + 1 = n by omega]; exact hv) (by omega), rfl, by first | rfl | (rw [show (((n - 1 : Nat)) : Int) = ((n : Nat) : Int) - 1 by omega])⟩)
    · refine Ok.ev2 400 [.d, .d, .f true (iV (a.getD (n - 1) 0)), .d, .d, .f true (iV (b.getD (n - 1) 0)), .v (.bool true)] [0, 1, 4, 5, 22] 0 (st' := (stX .any 30 ((sP_rb_compare a b) ++ [(5, iV (((n : Nat) : Int) - 1)), (22, .bool true)]) [])) (e := .normal) (ob := ((oP_rb_compare a b n) ++ [(.bool ((a.getD (n - 1) 0) != (b.getD (n - 1) 0)) : AV) = (.bool true : AV)])) ⟨(by have h := rb_at (a := a) (i := ((n : Nat) : Int) - 1) (by omega) (by omega); rw [show (((n : Nat) : Int) - 1).toNat = n - 1 by omega] at h; exact h), (by have h := rb_at (a := b) (i := ((n : Nat) : Int) - 1) (by omega) (by omega); rw [show (((n : Nat) : Int) - 1).toNat = n - 1 by omega] at h; exact h), (nT q2), trivial⟩ ?_
      refine seq_n ?_
      refine Ok.ev2 400 [.d, .d, .d, .f true (iV (a.getD (n - 1) 0)), .d, .d, .f true (iV (b.getD (n - 1) 0)), .v (iV ((a.getD (n - 1) 0) - (b.getD (n - 1) 0))), .d] [4] 0 (st' := (stX .any 30 [(4, iV ((a.getD (n - 1) 0) - (b.getD (n - 1) 0)))] [])) (e := .ret) (ob := ((oP_rb_compare a b n) ++ [(iV (IntKind.wrap .i64 ((a.getD (n - 1) 0) - (b.getD (n - 1) 0))) : AV) = (iV ((a.getD (n - 1) 0) - (b.getD (n - 1) 0)) : AV)])) ⟨(by have h := rb_at (a := a) (i := ((n : Nat) : Int) - 1) (by omega) (by omega); rw [show (((n : Nat) : Int) - 1).toNat = n - 1 by omega] at h; exact h), (by have h := rb_at (a := b) (i := ((n : Nat) : Int) - 1) (by omega) (by omega); rw [show (((n : Nat) : Int) - 1).toNat = n - 1 by omega] at h; exact h), iW (w64 (by omega) (by omega)), trivial⟩ ?_
      refine blk_r ?_
      refine seq_r ?_
      refine loopg_r ?_
      refine blk_r ?_
      refine seq_r ?_
      exact ⟨.inr rfl, finF_of (ob := [((a.getD (n - 1) 0) - (b.getD (n - 1) 0) : Int) = cmpB (val a) (val b)]) (by kernel_rfl) ⟨(by first | (exact cmp_hi ha hb (by rw [show n - 1 + 1 = n by omega]; exact hv) (by assumption)) | (exact cmp_eqB (by rw [show n = 0 by omega] at hv; exact hv))), trivial⟩⟩
  · refine Ok.ev2 400 [.d, .v (.bool false)] [0, 1, 4, 5, 13] 0 (st' := (stX .any 30 ((sP_rb_compare a b) ++ [(5, iV (((n : Nat) : Int) - 1)), (13, .bool false)]) [])) (e := .normal) (ob := [(.bool (decide ((((n : Nat) : Int) - 1) ≥ 0)) : AV) = (.bool false : AV)]) ⟨(bF q1), trivial⟩ ?_
    refine seq_n ?_
    refine Ok.ev2 400 [.d] [4] 0 (st' := (stX .any 30 [] [])) (e := (.exit 0)) (ob := []) trivial ?_
    refine seq_e ?_
    refine loopg_e ?_
    refine blkQ_here ?_
    refine seq_n ?_
    refine Ok.ev2 400 [.d] [4] 0 (st' := (stX .any 30 [(4, iV 0)] [])) (e := .ret) (ob := []) trivial ?_
    exact ⟨.inr rfl, finF_of (ob := [(0 : Int) = cmpB (val a) (val b)]) (by kernel_rfl) ⟨(by first | (exact cmp_hi ha hb (by rw [show n - 1 + 1 = n by omega]; exact hv) (by assumption)) | (exact cmp_eqB (by rw [show n = 0 by omega] at hv; exact hv))), trivial⟩⟩

def sP_rb_times (b : List Int) : List (Nat × AV) := [(1, .list (b.map encI)), (4, .nilslice)]
def oP_rb_times (a : List Int) (i : Nat) : List Prop := [∀ e ∈ ((sh a (i + 1)).map encI : List AV), belowV 1 e = true, (([iV 0]).take 1 ++ (sh a i).map encI : List AV) = (sh a (i + 1)).map encI, (2 * (1 + ((sh a i).map encI : List AV).length) + 1024) * 8 ≤ 2 ^ 48, ∀ y ∈ ((sh a i).map encI : List AV), (cellsOf y).length = 1 ∧ ∀ c ∈ cellsOf y, isCell c = true]
theorem rb_times {a b : List Int} (ha : B01 a) (hb : B01 b) (hla : a.length ≤ 100) (hlb : b.length ≤ 100) : FnF Try.prog 79 false [.list (a.map encI), .list (b.map encI)] (.list ((bl (val a * val b)).map encI)) := by
  refine fn_walkF Try.func79 (by kernel_rfl) (by kernel_rfl) (by kernel_rfl) (st := (stX (.tuple []) 30 [(0, .list (a.map encI)), (1, .list (b.map encI))] [])) rfl ?_
  refine Ok.sq [] ?_
  refine Ok.ev2 400 [.d] [0, 1, 4, 5] 0 (st' := (stX .any 30 [(0, .list (a.map encI)), (1, .list (b.map encI)), (4, .nilslice), (5, .tuple [])] [])) (e := .normal) (ob := []) trivial ?_
  refine seq_n ?_
  refine Ok.sq [true] ?_
  refine Ok.ev2 400 [.d, .d] [0, 1, 4, 5, 6] 1 (st' := (stX .any 30 [(0, .list (a.map encI)), (1, .list (b.map encI)), (4, .nilslice), (5, .slice 0 0 0 0)] [.row 1 [] 0])) (e := .normal) (ob := [∀ e ∈ ([] : List AV), belowV 1 e = true]) ⟨(by simp [belowV, idsOf, idsL]), trivial⟩ ?_
  refine seq_n ?_
  refine Ok.sq [true, true] ?_
  refine Ok.ev2 400 [.d, .d, .r (a.map encI), .d] [1, 4, 5, 6, 7] 2 (st' := (stX .any 30 ((sP_rb_times b) ++ [(5, .slice 0 0 0 0), (6, .slice 1 0 (0 + (a.map encI).length) 1)]) [.row 1 [] 0, .row 1 (a.map encI) 1])) (e := .normal) (ob := [∀ e ∈ ([] : List AV), belowV 2 e = true, ∀ e ∈ (a.map encI : List AV), belowV 2 e = true, (([]).take 0 ++ a.map encI : List AV) = a.map encI, (2 * (0 + (a.map encI : List AV).length) + 1024) * 8 ≤ 2 ^ 48, ∀ y ∈ (a.map encI : List AV), (cellsOf y).length = 1 ∧ ∀ c ∈ cellsOf y, isCell c = true]) ⟨(by simp [belowV, idsOf, idsL]), below_ids (ids_map (fun _ => rfl) _), (by simp [List.take_of_length_le]), (by simp; omega), (by simp [cellsOf, isCell]), trivial⟩ ?_
  refine seq_n ?_
  refine Ok.sq [true, true, true] ?_
  refine Ok.sq [true, true, true, false] ?_
  refine Ok.frz [1, 4, 5, 6] 0 (st' := (stX .any 30 ((sP_rb_times b) ++ [(5, .list []), (6, .list (((a.map encI).drop 0).take (0 + (a.map encI).length)))]) [])) (ob := [∀ e ∈ ([] : List AV), idsOf e = [], ∀ e ∈ (a.map encI : List AV), idsOf e = []]) (by kernel_rfl) ⟨(by simp [idsOf, idsL]), ids_map (fun _ => rfl) _, trivial⟩ ?_
  refine Ok.told (st2 := (stX .any 30 ((sP_rb_times b) ++ [(5, .list []), (6, .list (a.map encI))]) [])) (by rw [rowOut (by first | rfl | omega | (simp; done) | (simp [sh_len]; done) | (simp [sh_len]; omega))]) ?_
  refine Ok.ev2 400 [.d] [1, 4, 5, 6, 7] 0 (st' := (stX .any 30 ((sP_rb_times b) ++ [(5, .list []), (6, .list (a.map encI)), (7, iV 0)]) [])) (e := .normal) (ob := []) trivial ?_
  refine seq_n ?_
  refine Ok.bk [true, true, true, false, true] 0 ?_
  refine Ok.loopB [true, true, true, false, true, false] (by kernel_rfl) (fun m_ s_ => ∃ (i : Nat), (i ≤ b.length) ∧ m_ = b.length - i ∧ s_ = (stX .any 30 ((sP_rb_times b) ++ [(5, .list ((bl (val a * val (b.take i))).map encI)), (6, .list ((sh a i).map encI)), (7, iV ((i : Nat) : Int))]) [])) (b.length - 0) (⟨0, (by omega), rfl, by rw [tm_zero, sh_zero]; rfl⟩) ?_
  rintro m_ s_ ⟨i, hi, rfl, rfl⟩
  have kb : 0 ≤ b.getD i 0 ∧ b.getD i 0 ≤ 1 := by have := getD_01 hb i; omega
  have kl : (bl (val a * val (b.take i))).length ≤ a.length + b.length := tm_len ha hb i
  have ks : (sh a i).length = i + a.length := sh_len a i
  refine Ok.sq [true, true, true, false, true, false, false] ?_
  refine Ok.sq [true, true, true, false, true, false, false, false] ?_
  by_cases q1 : ((i : Nat) : Int) < (b.length : Int)
  · refine Ok.ev2 400 [.d, .d, .v (iV (b.length : Int)), .v (.bool true)] [1, 4, 5, 6, 7, 15] 0 (st' := (stX .any 30 ((sP_rb_times b) ++ [(5, .list ((bl (val a * val (b.take i))).map encI)), (6, .list ((sh a i).map encI)), (7, iV ((i : Nat) : Int)), (15, .bool true)]) [])) (e := .normal) (ob := [(iV (((b.map encI).length : Nat) : Int) : AV) = (iV (b.length : Int) : AV), (.bool (decide (((i : Nat) : Int) < (b.length : Int))) : AV) = (.bool true : AV)]) ⟨len_map, (bT q1), trivial⟩ ?_
    refine seq_n ?_
    refine Ok.ev2 400 [.d] [1, 4, 5, 6, 7] 0 (st' := (stX .any 30 ((sP_rb_times b) ++ [(5, .list ((bl (val a * val (b.take i))).map encI)), (6, .list ((sh a i).map encI)), (7, iV ((i : Nat) : Int))]) [])) (e := .normal) (ob := []) trivial ?_
    refine seq_n ?_
    refine Ok.sq [true, true, true, false, true, false, false, true] ?_
    refine Ok.bk [true, true, true, false, true, false, false, true, false] 1 ?_
    refine Ok.sq [true, true, true, false, true, false, false, true, false, false] ?_
    refine Ok.sq [true, true, true, false, true, false, false, true, false, false, false] ?_
    by_cases q2 : (b.getD i 0) = 1
    · refine Ok.ev2 400 [.d, .d, .e (encI (b.getD i 0)), .d, .v (.bool true)] [1, 4, 5, 6, 7, 22] 0 (st' := (stX .any 30 ((sP_rb_times b) ++ [(5, .list ((bl (val a * val (b.take i))).map encI)), (6, .list ((sh a i).map encI)), (7, iV ((i : Nat) : Int)), (22, .bool true)]) [])) (e := .normal) (ob := [0 ≤ ((i : Nat) : Int), (b.map encI)[((i : Nat) : Int).toNat]? = some (encI (b.getD i 0)), (.bool ((b.getD i 0) == 1) : AV) = (.bool true : AV)]) ⟨(by omega), elemN (by omega) (by omega), (eT q2), trivial⟩ ?_
      refine seq_n ?_
      refine Ok.ev2 400 [.d, .d, .d, .f false (.list ((bl (val (bl (val a * val (b.take i))) + val (sh a i))).map encI)), .d] [1, 4, 5, 6, 7] 0 (st' := (stX .any 30 ((sP_rb_times b) ++ [(5, .list ((bl (val (bl (val a * val (b.take i))) + val (sh a i))).map encI)), (6, .list ((sh a i).map encI)), (7, iV ((i : Nat) : Int))]) [])) (e := .normal) (ob := [FnF Try.prog 92 false [.list ((bl (val a * val (b.take i))).map encI), .list ((sh a i).map encI)] (.list ((bl (val (bl (val a * val (b.take i))) + val (sh a i))).map encI))]) ⟨rb_plus (a := bl (val a * val (b.take i))) (b := sh a i) (bl_01 _) (sh_01 ha i) (by omega) (by omega), trivial⟩ ?_
      refine seq_n ?_
      refine Ok.ev2 400 [.d, .d, .r ((sh a (i + 1)).map encI), .d] [1, 4, 5, 6, 7] 1 (st' := (stX .any 30 ((sP_rb_times b) ++ [(5, .list ((bl (val (bl (val a * val (b.take i))) + val (sh a i))).map encI)), (6, .slice 0 0 (1 + ((sh a i).map encI).length) 1), (7, iV ((i : Nat) : Int))]) [.row 1 ((sh a (i + 1)).map encI) 1])) (e := .normal) (ob := (oP_rb_times a i)) ⟨below_ids (ids_map (fun _ => rfl) _), (by simp [List.take_of_length_le, sh_len, sh_enc]), (by simp; omega), (by simp [cellsOf, isCell]), trivial⟩ ?_
      refine blk_n ?_
      refine seq_n ?_
      refine Ok.frz [1, 4, 5, 6, 7] 0 (st' := (stX .any 30 ((sP_rb_times b) ++ [(5, .list ((bl (val (bl (val a * val (b.take i))) + val (sh a i))).map encI)), (6, .list ((((sh a (i + 1)).map encI).drop 0).take (1 + ((sh a i).map encI).length))), (7, iV ((i : Nat) : Int))]) [])) (ob := [∀ e ∈ ((sh a (i + 1)).map encI : List AV), idsOf e = []]) (by kernel_rfl) ⟨ids_map (fun _ => rfl) _, trivial⟩ ?_
      refine Ok.told (st2 := (stX .any 30 ((sP_rb_times b) ++ [(5, .list ((bl (val (bl (val a * val (b.take i))) + val (sh a i))).map encI)), (6, .list ((sh a (i + 1)).map encI)), (7, iV ((i : Nat) : Int))]) [])) (by rw [rowOut (by first | rfl | omega | (simp; done) | (simp [sh_len]; done) | (simp [sh_len]; omega))]) ?_
      refine Ok.ev2 400 [.d, .v (iV (((i : Nat) : Int) + 1)), .d] [1, 4, 5, 6, 7] 0 (st' := (stX .any 30 ((sP_rb_times b) ++ [(5, .list ((bl (val (bl (val a * val (b.take i))) + val (sh a i))).map encI)), (6, .list ((sh a (i + 1)).map encI)), (7, iV (((i : Nat) : Int) + 1))]) [])) (e := .normal) (ob := [(iV (IntKind.wrap .i64 (((i : Nat) : Int) + 1)) : AV) = (iV (((i : Nat) : Int) + 1) : AV)]) ⟨iW (w64 (by omega) (by omega)), trivial⟩ ?_
      exact loop_g [1, 4, 5, 6, 7] 0 (b.length - (i + 1)) (by omega) rfl (s' := (stX .any 30 ((sP_rb_times b) ++ [(5, .list ((bl (val (bl (val a * val (b.take i))) + val (sh a i))).map encI)), (6, .list ((sh a (i + 1)).map encI)), (7, iV (((i : Nat) : Int) + 1))]) [])) (ob := []) (by kernel_rfl) trivial (⟨(i + 1), (by omega), rfl, by first | (rw [tm_yes ha hb (by omega) (by assumption)]; rfl) | (rw [tm_no (by omega) (by omega)]; rfl)⟩)
    · refine Ok.ev2 400 [.d, .d, .e (encI (b.getD i 0)), .d, .v (.bool false)] [1, 4, 5, 6, 7, 22] 0 (st' := (stX .any 30 ((sP_rb_times b) ++ [(5, .list ((bl (val a * val (b.take i))).map encI)), (6, .list ((sh a i).map encI)), (7, iV ((i : Nat) : Int)), (22, .bool false)]) [])) (e := .normal) (ob := [0 ≤ ((i : Nat) : Int), (b.map encI)[((i : Nat) : Int).toNat]? = some (encI (b.getD i 0)), (.bool ((b.getD i 0) == 1) : AV) = (.bool false : AV)]) ⟨(by omega), elemN (by omega) (by omega), (eF q2), trivial⟩ ?_
      refine seq_n ?_
      refine Ok.ev2 400 [.d] [1, 4, 5, 6, 7] 0 (st' := (stX .any 30 ((sP_rb_times b) ++ [(5, .list ((bl (val a * val (b.take i))).map encI)), (6, .list ((sh a i).map encI)), (7, iV ((i : Nat) : Int))]) [])) (e := .normal) (ob := []) trivial ?_
      refine seq_n ?_
      refine Ok.ev2 400 [.d, .d, .r ((sh a (i + 1)).map encI), .d] [1, 4, 5, 6, 7] 1 (st' := (stX .any 30 ((sP_rb_times b) ++ [(5, .list ((bl (val a * val (b.take i))).map encI)), (6, .slice 0 0 (1 + ((sh a i).map encI).length) 1), (7, iV ((i : Nat) : Int))]) [.row 1 ((sh a (i + 1)).map encI) 1])) (e := .normal) (ob := (oP_rb_times a i)) ⟨below_ids (ids_map (fun _ => rfl) _), (by simp [List.take_of_length_le, sh_len, sh_enc]), (by simp; omega), (by simp [cellsOf, isCell]), trivial⟩ ?_
      refine blk_n ?_
      refine seq_n ?_
      refine Ok.frz [1, 4, 5, 6, 7] 0 (st' := (stX .any 30 ((sP_rb_times b) ++ [(5, .list ((bl (val a * val (b.take i))).map encI)), (6, .list ((((sh a (i + 1)).map encI).drop 0).take (1 + ((sh a i).map encI).length))), (7, iV ((i : Nat) : Int))]) [])) (ob := [∀ e ∈ ((sh a (i + 1)).map encI : List AV), idsOf e = []]) (by kernel_rfl) ⟨ids_map (fun _ => rfl) _, trivial⟩ ?_
      refine Ok.told (st2 := (stX .any 30 ((sP_rb_times b) ++ [(5, .list ((bl (val a * val (b.take i))).map encI)), (6, .list ((sh a (i + 1)).map encI)), (7, iV ((i : Nat) : Int))]) [])) (by rw [rowOut (by first | rfl | omega | (simp; done) | (simp [sh_len]; done) | (simp [sh_len]; omega))]) ?_
      refine Ok.ev2 400 [.d, .v (iV (((i : Nat) : Int) + 1)), .d] [1, 4, 5, 6, 7] 0 (st' := (stX .any 30 ((sP_rb_times b) ++ [(5, .list ((bl (val a * val (b.take i))).map encI)), (6, .list ((sh a (i + 1)).map encI)), (7, iV (((i : Nat) : Int) + 1))]) [])) (e := .normal) (ob := [(iV (IntKind.wrap .i64 (((i : Nat) : Int) + 1)) : AV) = (iV (((i : Nat) : Int) + 1) : AV)]) ⟨iW (w64 (by omega) (by omega)), trivial⟩ ?_
      exact loop_g [1, 4, 5, 6, 7] 0 (b.length - (i + 1)) (by omega) rfl (s' := (stX .any 30 ((sP_rb_times b) ++ [(5, .list ((bl (val a * val (b.take i))).map encI)), (6, .list ((sh a (i + 1)).map encI)), (7, iV (((i : Nat) : Int) + 1))]) [])) (ob := []) (by kernel_rfl) trivial (⟨(i + 1), (by omega), rfl, by first | (rw [tm_yes ha hb (by omega) (by assumption)]; rfl) | (rw [tm_no (by omega) (by omega)]; rfl)⟩)
  · refine Ok.ev2 400 [.d, .d, .v (iV (b.length : Int)), .v (.bool false)] [1, 4, 5, 6, 7, 15] 0 (st' := (stX .any 30 ((sP_rb_times b) ++ [(5, .list ((bl (val a * val (b.take i))).map encI)), (6, .list ((sh a i).map encI)), (7, iV ((i : Nat) : Int)), (15, .bool false)]) [])) (e := .normal) (ob := [(iV (((b.map encI).length : Nat) : Int) : AV) = (iV (b.length : Int) : AV), (.bool (decide (((i : Nat) : Int) < (b.length : Int))) : AV) = (.bool false : AV)]) ⟨len_map, (bF q1), trivial⟩ ?_
    refine seq_n ?_
    refine Ok.ev2 400 [.d] [4, 5] 0 (st' := (stX .any 30 [(4, .nilslice), (5, .list ((bl (val a * val (b.take i))).map encI))] [])) (e := (.exit 0)) (ob := []) trivial ?_
    refine seq_e ?_
    refine loopg_e ?_
    refine blkQ_here ?_
    refine seq_n ?_
    refine Ok.ev2 400 [.d, .d] [4] 0 (st' := (stX .any 30 [(4, .list ((bl (val a * val (b.take i))).map encI))] [])) (e := .ret) (ob := []) trivial ?_
    exact ⟨.inr rfl, finF_of (ob := [((bl (val a * val (b.take i))).map encI : List AV) = (bl (val a * val b)).map encI]) (by kernel_rfl) ⟨(by rw [show i = b.length by omega, List.take_length]), trivial⟩⟩

def sP_rb_fits (a : List Int) : List (Nat × AV) := [(0, .list (a.map encI)), (2, iV 0), (3, .bool false)]
def oP_rb_fits (a : List Int) : List Prop := [FnF Try.prog 75 true [] (iV 4611686018427387904), FnF Try.prog 80 true [iV 4611686018427387904] (.list ((bl 4611686018427387904).map encI)), FnF Try.prog 93 true [.list (a.map encI), .list ((bl 4611686018427387904).map encI)] (iV (cmpB (val a) (val (bl 4611686018427387904))))]
theorem rb_fits {a : List Int} (ha : B01 a) (hla : a.length ≤ 1000) : FnF Try.prog 91 true [.list (a.map encI)] (.tuple [.int .i64 (fitN (val a)), .bool (decide (val a ≤ 4611686018427387904))]) := by
  have kv : val (bl 4611686018427387904) = 4611686018427387904 := val_bl _ (by omega)
  have kg : cmpB (val a) (val (bl 4611686018427387904)) > 0 → val (bl 4611686018427387904) < val a := cmpB_gt.1
  have kh : ¬ (cmpB (val a) (val (bl 4611686018427387904)) > 0) → val a ≤ val (bl 4611686018427387904) := cmpB_gt.2
  have kn : 0 ≤ val a := val_nonneg ha
  have km : (bl 4611686018427387904).length ≤ 63 := bl_len 63 _ (by omega)
  refine fn_walkF Try.func91 (by kernel_rfl) (by kernel_rfl) (by kernel_rfl) (st := (stX (.tuple []) 26 [(0, .list (a.map encI))] [])) rfl ?_
  refine Ok.sq [] ?_
  refine Ok.ev2 400 [.d, .d] [0, 2, 3] 0 (st' := (stX .any 26 (sP_rb_fits a) [])) (e := .normal) (ob := []) trivial ?_
  refine seq_n ?_
  refine Ok.sq [true] ?_
  refine Ok.sq [true, false] ?_
  by_cases q1 : (cmpB (val a) (val (bl 4611686018427387904))) > 0
  · refine Ok.ev2 400 [.d, .f true (iV 4611686018427387904), .f true (.list ((bl 4611686018427387904).map encI)), .f true (iV (cmpB (val a) (val (bl 4611686018427387904)))), .v (.bool true)] [0, 2, 3, 10] 0 (st' := (stX .any 26 ((sP_rb_fits a) ++ [(10, .bool true)]) [])) (e := .normal) (ob := ((oP_rb_fits a) ++ [(.bool (decide ((cmpB (val a) (val (bl 4611686018427387904))) > 0)) : AV) = (.bool true : AV)])) ⟨oc75_10, rb_bits (n := 4611686018427387904) (by omega) (by omega), rb_compare (a := a) (b := bl 4611686018427387904) ha (bl_01 _) (by omega) (by omega), (bT q1), trivial⟩ ?_
    refine seq_n ?_
    refine Ok.ev2 400 [.d, .d, .d] [2, 3] 0 (st' := (stX .any 26 [(2, iV 0), (3, .bool false)] [])) (e := .ret) (ob := []) trivial ?_
    refine seq_r ?_
    refine ⟨.inr rfl, finF_of (ob := [(0 : Int) = fitN (val a), (false : Bool) = (decide (val a ≤ 4611686018427387904))]) (by kernel_rfl) ⟨?_, ?_, trivial⟩⟩ <;> (first | (rw [fitN, if_neg (by omega)]; done) | (rw [fitN, if_pos (by omega), show n = 0 by omega, List.drop_zero]; done) | (rw [decide_eq_true (by omega)]; done) | (rw [decide_eq_false (by omega)]; done))
  · refine Ok.ev2 400 [.d, .f true (iV 4611686018427387904), .f true (.list ((bl 4611686018427387904).map encI)), .f true (iV (cmpB (val a) (val (bl 4611686018427387904)))), .v (.bool false)] [0, 2, 3, 10] 0 (st' := (stX .any 26 ((sP_rb_fits a) ++ [(10, .bool false)]) [])) (e := .normal) (ob := ((oP_rb_fits a) ++ [(.bool (decide ((cmpB (val a) (val (bl 4611686018427387904))) > 0)) : AV) = (.bool false : AV)])) ⟨oc75_10, rb_bits (n := 4611686018427387904) (by omega) (by omega), rb_compare (a := a) (b := bl 4611686018427387904) ha (bl_01 _) (by omega) (by omega), (bF q1), trivial⟩ ?_
    refine seq_n ?_
    refine Ok.ev2 400 [.d] [0, 2, 3, 4] 0 (st' := (stX .any 26 (sP_rb_fits a) [])) (e := .normal) (ob := []) trivial ?_
    refine seq_n ?_
    refine Ok.sq [true, true] ?_
    refine Ok.ev2 400 [.d] [0, 2, 3, 4, 5] 0 (st' := (stX .any 26 ((sP_rb_fits a) ++ [(4, iV 0)]) [])) (e := .normal) (ob := []) trivial ?_
    refine seq_n ?_
    refine Ok.sq [true, true, true] ?_
    refine Ok.sq [true, true, true, false] ?_
    refine Ok.ev2 400 [.d, .v (iV (a.length : Int)), .v (iV ((a.length : Int) - 1)), .d] [0, 2, 3, 4, 5] 0 (st' := (stX .any 26 ((sP_rb_fits a) ++ [(4, iV 0), (5, iV ((a.length : Int) - 1))]) [])) (e := .normal) (ob := [(iV (((a.map encI).length : Nat) : Int) : AV) = (iV (a.length : Int) : AV), (iV (IntKind.wrap .i64 ((a.length : Int) - 1)) : AV) = (iV ((a.length : Int) - 1) : AV)]) ⟨len_map, iW (w64 (by omega) (by omega)), trivial⟩ ?_
    refine seq_n ?_
    refine Ok.bk [true, true, true, false, true] 0 ?_
    refine Ok.loopB [true, true, true, false, true, false] (by kernel_rfl) (fun m_ s_ => ∃ (n : Nat), (n ≤ a.length) ∧ m_ = n + 1 ∧ s_ = (stX .any 26 ((sP_rb_fits a) ++ [(4, iV (val (a.drop n))), (5, iV (((n : Nat) : Int) - 1))]) [])) (a.length + 1) (⟨a.length, (by omega), rfl, by first | rfl | (rw [val_end a (Nat.le_refl _)])⟩) ?_
    rintro m_ s_ ⟨n, hn, rfl, rfl⟩
    have kd : 0 ≤ val (a.drop n) ∧ val (a.drop n) ≤ val a := drop_le ha n
    have kp : 0 ≤ a.getD (n - 1) 0 ∧ a.getD (n - 1) 0 ≤ 1 := by have := getD_01 ha (n - 1); omega
    have ke : 0 < n → val (a.drop (n - 1)) = a.getD (n - 1) 0 + 2 * val (a.drop n) ∧ val (a.drop (n - 1)) ≤ val a := fun h => ⟨by have := val_drop a (n - 1); rwa [show n - 1 + 1 = n by omega] at this, (drop_le ha (n - 1)).2⟩
    refine Ok.sq [true, true, true, false, true, false, false] ?_
    refine Ok.sq [true, true, true, false, true, false, false, false] ?_
    by_cases q2 : (((n : Nat) : Int) - 1) ≥ 0
    · refine Ok.ev2 400 [.d, .v (.bool true)] [0, 2, 3, 4, 5, 15] 0 (st' := (stX .any 26 ((sP_rb_fits a) ++ [(4, iV (val (a.drop n))), (5, iV (((n : Nat) : Int) - 1)), (15, .bool true)]) [])) (e := .normal) (ob := [(.bool (decide ((((n : Nat) : Int) - 1) ≥ 0)) : AV) = (.bool true : AV)]) ⟨(bT q2), trivial⟩ ?_
      refine seq_n ?_
      refine Ok.ev2 400 [.d] [0, 2, 3, 4, 5] 0 (st' := (stX .any 26 ((sP_rb_fits a) ++ [(4, iV (val (a.drop n))), (5, iV (((n : Nat) : Int) - 1))]) [])) (e := .normal) (ob := []) trivial ?_
      refine seq_n ?_
      refine Ok.ev2 400 [.d, .v (iV (2 * (val (a.drop n)))), .d, .d, .e (encI (a.getD (n - 1) 0)), .d, .v (iV ((2 * (val (a.drop n))) + (a.getD (n - 1) 0))), .d, .d, .v (iV ((((n : Nat) : Int) - 1) - 1)), .d] [0, 2, 3, 4, 5] 0 (st' := (stX .any 26 ((sP_rb_fits a) ++ [(4, iV ((2 * (val (a.drop n))) + (a.getD (n - 1) 0))), (5, iV ((((n : Nat) : Int) - 1) - 1))]) [])) (e := .normal) (ob := [(iV (IntKind.wrap .i64 (2 * (val (a.drop n)))) : AV) = (iV (2 * (val (a.drop n))) : AV), 0 ≤ ((n : Nat) : Int) - 1, (a.map encI)[(((n : Nat) : Int) - 1).toNat]? = some (encI (a.getD (n - 1) 0)), (iV (IntKind.wrap .i64 ((2 * (val (a.drop n))) + (a.getD (n - 1) 0))) : AV) = (iV ((2 * (val (a.drop n))) + (a.getD (n - 1) 0)) : AV), (iV (IntKind.wrap .i64 ((((n : Nat) : Int) - 1) - 1)) : AV) = (iV ((((n : Nat) : Int) - 1) - 1) : AV)]) ⟨iW (w64 (by omega) (by omega)), (by omega), elemN (by omega) (by omega), iW (w64 (by omega) (by omega)), iW (w64 (by omega) (by omega)), trivial⟩ ?_
      exact loop_g [0, 2, 3, 4, 5] 0 ((n - 1) + 1) (by omega) rfl (s' := (stX .any 26 ((sP_rb_fits a) ++ [(4, iV ((2 * (val (a.drop n))) + (a.getD (n - 1) 0))), (5, iV ((((n : Nat) : Int) - 1) - 1))]) [])) (ob := []) (by kernel_rfl) trivial (⟨(n - 1), (by omega), rfl, by first | rfl | (rw [show (((n - 1 : Nat)) : Int) = ((n : Nat) : Int) - 1 by omega, (ke (by omega)).1, Int.add_comm]; rfl) | (rw [show (((n - 1 : Nat)) : Int) = ((n : Nat) : Int) - 1 by omega, (ke (by omega)).1, Int.add_comm])⟩)
    · refine Ok.ev2 400 [.d, .v (.bool false)] [0, 2, 3, 4, 5, 15] 0 (st' := (stX .any 26 ((sP_rb_fits a) ++ [(4, iV (val (a.drop n))), (5, iV (((n : Nat) : Int) - 1)), (15, .bool false)]) [])) (e := .normal) (ob := [(.bool (decide ((((n : Nat) : Int) - 1) ≥ 0)) : AV) = (.bool false : AV)]) ⟨(bF q2), trivial⟩ ?_
      refine seq_n ?_
      refine Ok.ev2 400 [.d] [2, 3, 4] 0 (st' := (stX .any 26 [(2, iV 0), (3, .bool false), (4, iV (val (a.drop n)))] [])) (e := (.exit 0)) (ob := []) trivial ?_
      refine seq_e ?_
      refine loopg_e ?_
      refine blkQ_here ?_
      refine seq_n ?_
      refine Ok.ev2 400 [.d, .d, .d] [2, 3] 0 (st' := (stX .any 26 [(2, iV (val (a.drop n))), (3, .bool true)] [])) (e := .ret) (ob := []) trivial ?_
      refine ⟨.inr rfl, finF_of (ob := [(val (a.drop n) : Int) = fitN (val a), (true : Bool) = (decide (val a ≤ 4611686018427387904))]) (by kernel_rfl) ⟨?_, ?_, trivial⟩⟩ <;> (first | (rw [fitN, if_neg (by omega)]; done) | (rw [fitN, if_pos (by omega), show n = 0 by omega, List.drop_zero]; done) | (rw [decide_eq_true (by omega)]; done) | (rw [decide_eq_false (by omega)]; done))

def sP_rb_divide (a : List Int) (m : Int) : List (Nat × AV) := [(0, .list (a.map encI)), (1, iV m), (4, .ptr 0 0), (5, .slice 1 0 a.length 0)]
theorem rb_divide {a : List Int} {m : Int} (ha : B01 a) (hla : a.length ≤ 1000) (h1 : 0 < m) (h2 : m ≤ 4611686018427387904) : FnF Try.prog 83 false [.list (a.map encI), .int .i64 m] (.agg [.list ((bl (val a / m)).map encI), .int .i64 (val a % m)]) := by
  refine fn_walkF Try.func83 (by kernel_rfl) (by kernel_rfl) (by kernel_rfl) (st := (stX (.tuple []) 38 [(0, .list (a.map encI)), (1, iV m)] [])) rfl ?_
  refine Ok.sq [] ?_
  refine Ok.ev2 400 [.d] [0, 1, 4, 5] 1 (st' := (stX .any 38 [(0, .list (a.map encI)), (1, iV m), (4, .ptr 0 0), (5, .tuple [])] [.cells [.nilslice, iV 0]])) (e := .normal) (ob := []) trivial ?_
  refine seq_n ?_
  refine Ok.sq [true] ?_
  refine Ok.ev2 400 [.d, .v (iV (a.length : Int)), .d, .d] [0, 1, 4, 5, 6] 2 (st' := (stX .any 38 [(0, .list (a.map encI)), (1, iV m), (4, .ptr 0 0), (5, .slice 1 0 ((a.length : Int).toNat) 0)] [.cells [.nilslice, iV 0], .row 1 (List.replicate (a.length : Int).toNat (iV 0 : AV)) 0])) (e := .normal) (ob := [∀ e ∈ (List.replicate (a.length : Int).toNat (iV 0 : AV) : List AV), belowV 2 e = true, (iV (((a.map encI).length : Nat) : Int) : AV) = (iV (a.length : Int) : AV), 0 ≤ (a.length : Int) ∧ (a.length : Int) = (a.length : Int) ∧ ((8 : Nat) : Int) * (a.length : Int) ≤ 2 ^ 48 ∧ (a.length : Int) < 2 ^ 63]) ⟨(by simp [belowV, idsOf, idsL]), len_map, (by omega), trivial⟩ ?_
  refine seq_n ?_
  refine Ok.sq [true, true] ?_
  refine Ok.ev2 400 [.d] [0, 1, 4, 5, 6, 7] 2 (st' := (stX .any 38 [(0, .list (a.map encI)), (1, iV m), (4, .ptr 0 0), (5, .slice 1 0 ((a.length : Int).toNat) 0), (6, iV 0)] [.cells [.nilslice, iV 0], .row 1 (List.replicate (a.length : Int).toNat (iV 0 : AV)) 0])) (e := .normal) (ob := [∀ e ∈ (List.replicate (a.length : Int).toNat (iV 0 : AV) : List AV), belowV 2 e = true]) ⟨(by simp [belowV, idsOf, idsL]), trivial⟩ ?_
  refine seq_n ?_
  refine Ok.sq [true, true, true] ?_
  refine Ok.sq [true, true, true, false] ?_
  refine Ok.ev2 400 [.d, .v (iV (a.length : Int)), .v (iV ((a.length : Int) - 1)), .d] [0, 1, 4, 5, 6, 7] 2 (st' := (stX .any 38 [(0, .list (a.map encI)), (1, iV m), (4, .ptr 0 0), (5, .slice 1 0 ((a.length : Int).toNat) 0), (6, iV 0), (7, iV ((a.length : Int) - 1))] [.cells [.nilslice, iV 0], .row 1 (List.replicate (a.length : Int).toNat (iV 0 : AV)) 0])) (e := .normal) (ob := [∀ e ∈ (List.replicate (a.length : Int).toNat (iV 0 : AV) : List AV), belowV 2 e = true, (iV (((a.map encI).length : Nat) : Int) : AV) = (iV (a.length : Int) : AV), (iV (IntKind.wrap .i64 ((a.length : Int) - 1)) : AV) = (iV ((a.length : Int) - 1) : AV)]) ⟨(by simp [belowV, idsOf, idsL]), len_map, iW (w64 (by omega) (by omega)), trivial⟩ ?_
  refine seq_n ?_
  refine Ok.bk [true, true, true, false, true] 0 ?_
  refine Ok.loopB [true, true, true, false, true, false] (by kernel_rfl) (fun m_ s_ => ∃ (Q : List Int) (r : Int) (n : Nat), (n ≤ a.length) ∧ (Q.length = a.length) ∧ (0 ≤ r ∧ r < m) ∧ (B01 Q) ∧ (∀ k, k < n → Q.getD k 0 = 0) ∧ (val (Q.drop n) * m + r = val (a.drop n)) ∧ m_ = n + 1 ∧ s_ = (stX .any 38 ((sP_rb_divide a m) ++ [(6, iV r), (7, iV (((n : Nat) : Int) - 1))]) [.cells [.nilslice, iV 0], .row 1 (Q.map encI) 0])) (a.length + 1) (⟨(List.replicate a.length 0), 0, a.length, (by omega), (by simp), (by omega), zeros_01 _, (fun k hk => zeros_get _ _), (by rw [val_end _ (by simp), val_end _ (by simp)]; simp), rfl, by first | rfl | (rw [List.map_replicate]; rfl) | (simp only [List.map_replicate, Int.toNat_natCast]; rfl)⟩) ?_
  rintro m_ s_ ⟨Q, r, n, hn, hql, hr, hq, hz, hs, rfl, rfl⟩
  have kp : 0 ≤ a.getD (n - 1) 0 ∧ a.getD (n - 1) 0 ≤ 1 := by have := getD_01 ha (n - 1); omega
  refine Ok.sq [true, true, true, false, true, false, false] ?_
  refine Ok.sq [true, true, true, false, true, false, false, false] ?_
  by_cases q1 : (((n : Nat) : Int) - 1) ≥ 0
  · refine Ok.ev2 400 [.d, .v (.bool true)] [0, 1, 4, 5, 6, 7, 15] 2 (st' := (stX .any 38 ((sP_rb_divide a m) ++ [(6, iV r), (7, iV (((n : Nat) : Int) - 1)), (15, .bool true)]) [.cells [.nilslice, iV 0], .row 1 (Q.map encI) 0])) (e := .normal) (ob := [∀ e ∈ (Q.map encI : List AV), belowV 2 e = true, (.bool (decide ((((n : Nat) : Int) - 1) ≥ 0)) : AV) = (.bool true : AV)]) ⟨below_ids (ids_map (fun _ => rfl) _), (bT q1), trivial⟩ ?_
    refine seq_n ?_
    refine Ok.ev2 400 [.d] [0, 1, 4, 5, 6, 7] 2 (st' := (stX .any 38 ((sP_rb_divide a m) ++ [(6, iV r), (7, iV (((n : Nat) : Int) - 1))]) [.cells [.nilslice, iV 0], .row 1 (Q.map encI) 0])) (e := .normal) (ob := [∀ e ∈ (Q.map encI : List AV), belowV 2 e = true]) ⟨below_ids (ids_map (fun _ => rfl) _), trivial⟩ ?_
    refine seq_n ?_
    refine Ok.sq [true, true, true, false, true, false, false, true] ?_
    refine Ok.bk [true, true, true, false, true, false, false, true, false] 1 ?_
    refine Ok.sq [true, true, true, false, true, false, false, true, false, false] ?_
    refine Ok.ev2 400 [.d, .v (iV (2 * r)), .d, .d, .e (encI (a.getD (n - 1) 0)), .d, .v (iV ((2 * r) + (a.getD (n - 1) 0))), .d] [0, 1, 4, 5, 6, 7] 2 (st' := (stX .any 38 ((sP_rb_divide a m) ++ [(6, iV ((2 * r) + (a.getD (n - 1) 0))), (7, iV (((n : Nat) : Int) - 1))]) [.cells [.nilslice, iV 0], .row 1 (Q.map encI) 0])) (e := .normal) (ob := [∀ e ∈ (Q.map encI : List AV), belowV 2 e = true, (iV (IntKind.wrap .i64 (2 * r)) : AV) = (iV (2 * r) : AV), 0 ≤ ((n : Nat) : Int) - 1, (a.map encI)[(((n : Nat) : Int) - 1).toNat]? = some (encI (a.getD (n - 1) 0)), (iV (IntKind.wrap .i64 ((2 * r) + (a.getD (n - 1) 0))) : AV) = (iV ((2 * r) + (a.getD (n - 1) 0)) : AV)]) ⟨below_ids (ids_map (fun _ => rfl) _), iW (w64 (by omega) (by omega)), (by omega), elemN (by omega) (by omega), iW (w64 (by omega) (by omega)), trivial⟩ ?_
    refine seq_n ?_
    refine Ok.sq [true, true, true, false, true, false, false, true, false, false, true] ?_
    by_cases q2 : ((2 * r) + (a.getD (n - 1) 0)) ≥ m
    · refine Ok.ev2 400 [.d, .d, .v (.bool true)] [0, 1, 4, 5, 6, 7, 27] 2 (st' := (stX .any 38 ((sP_rb_divide a m) ++ [(6, iV ((2 * r) + (a.getD (n - 1) 0))), (7, iV (((n : Nat) : Int) - 1)), (27, .bool true)]) [.cells [.nilslice, iV 0], .row 1 (Q.map encI) 0])) (e := .normal) (ob := [∀ e ∈ (Q.map encI : List AV), belowV 2 e = true, (.bool (decide (((2 * r) + (a.getD (n - 1) 0)) ≥ m)) : AV) = (.bool true : AV)]) ⟨below_ids (ids_map (fun _ => rfl) _), (bT q2), trivial⟩ ?_
      refine seq_n ?_
      refine Ok.ev2 400 [.d, .d, .d, .v (iV (((2 * r) + (a.getD (n - 1) 0)) - m)), .d, .d, .d, .d, .er (encI (Q.getD (n - 1) 0)) ((Q.set (n - 1) 1).map encI)] [0, 1, 4, 5, 6, 7] 2 (st' := (stX .any 38 ((sP_rb_divide a m) ++ [(6, iV (((2 * r) + (a.getD (n - 1) 0)) - m)), (7, iV (((n : Nat) : Int) - 1))]) [.cells [.nilslice, iV 0], .row 1 ((Q.set (n - 1) 1).map encI) 0])) (e := .normal) (ob := [∀ e ∈ ((Q.set (n - 1) 1).map encI : List AV), belowV 2 e = true, (iV (IntKind.wrap .i64 (((2 * r) + (a.getD (n - 1) 0)) - m)) : AV) = (iV (((2 * r) + (a.getD (n - 1) 0)) - m) : AV), 0 ≤ ((n : Nat) : Int) - 1 ∧ ((n : Nat) : Int) - 1 < (a.length : Nat), ((Q.map encI).set (0 + (((n : Nat) : Int) - 1).toNat) (iV 1 : AV) : List AV) = (Q.set (n - 1) 1).map encI, (Q.map encI)[0 + (((n : Nat) : Int) - 1).toNat]? = some (encI (Q.getD (n - 1) 0))]) ⟨below_ids (ids_map (fun _ => rfl) _), iW (w64 (by omega) (by omega)), (by omega), (by simp [List.map_set, encI]), elemN (by omega) (by omega), trivial⟩ ?_
      refine blk_n ?_
      refine seq_n ?_
      refine Ok.ev2 400 [.d, .v (iV ((((n : Nat) : Int) - 1) - 1)), .d] [0, 1, 4, 5, 6, 7] 2 (st' := (stX .any 38 ((sP_rb_divide a m) ++ [(6, iV (((2 * r) + (a.getD (n - 1) 0)) - m)), (7, iV ((((n : Nat) : Int) - 1) - 1))]) [.cells [.nilslice, iV 0], .row 1 ((Q.set (n - 1) 1).map encI) 0])) (e := .normal) (ob := [∀ e ∈ ((Q.set (n - 1) 1).map encI : List AV), belowV 2 e = true, (iV (IntKind.wrap .i64 ((((n : Nat) : Int) - 1) - 1)) : AV) = (iV ((((n : Nat) : Int) - 1) - 1) : AV)]) ⟨below_ids (ids_map (fun _ => rfl) _), iW (w64 (by omega) (by omega)), trivial⟩ ?_
      exact loop_g [0, 1, 4, 5, 6, 7] 2 ((n - 1) + 1) (by omega) rfl (s' := (stX .any 38 ((sP_rb_divide a m) ++ [(6, iV (((2 * r) + (a.getD (n - 1) 0)) - m)), (7, iV ((((n : Nat) : Int) - 1) - 1))]) [.cells [.nilslice, iV 0], .row 1 ((Q.set (n - 1) 1).map encI) 0])) (ob := [∀ e ∈ ((Q.set (n - 1) 1).map encI : List AV), idsOf e = []]) (by kernel_rfl) ⟨ids_map (fun _ => rfl) _, trivial⟩ (⟨(Q.set (n - 1) 1), (((2 * r) + (a.getD (n - 1) 0)) - m), (n - 1), (by omega), (by simp; omega), (by omega), set_01 hq _, set_zero (by omega) (by omega) hz, div_yes (by omega) (by omega) hs, rfl, by first | rfl | (rw [show (((n - 1 : Nat)) : Int) = ((n : Nat) : Int) - 1 by omega]; done) | (rw [show (((n - 1 : Nat)) : Int) = ((n : Nat) : Int) - 1 by omega]; rfl)⟩)
    · refine Ok.ev2 400 [.d, .d, .v (.bool false)] [0, 1, 4, 5, 6, 7, 27] 2 (st' := (stX .any 38 ((sP_rb_divide a m) ++ [(6, iV ((2 * r) + (a.getD (n - 1) 0))), (7, iV (((n : Nat) : Int) - 1)), (27, .bool false)]) [.cells [.nilslice, iV 0], .row 1 (Q.map encI) 0])) (e := .normal) (ob := [∀ e ∈ (Q.map encI : List AV), belowV 2 e = true, (.bool (decide (((2 * r) + (a.getD (n - 1) 0)) ≥ m)) : AV) = (.bool false : AV)]) ⟨below_ids (ids_map (fun _ => rfl) _), (bF q2), trivial⟩ ?_
      refine seq_n ?_
      refine Ok.ev2 400 [.d] [0, 1, 4, 5, 6, 7] 2 (st' := (stX .any 38 ((sP_rb_divide a m) ++ [(6, iV ((2 * r) + (a.getD (n - 1) 0))), (7, iV (((n : Nat) : Int) - 1))]) [.cells [.nilslice, iV 0], .row 1 (Q.map encI) 0])) (e := .normal) (ob := [∀ e ∈ (Q.map encI : List AV), belowV 2 e = true]) ⟨below_ids (ids_map (fun _ => rfl) _), trivial⟩ ?_
      refine blk_n ?_
      refine seq_n ?_
      refine Ok.ev2 400 [.d, .v (iV ((((n : Nat) : Int) - 1) - 1)), .d] [0, 1, 4, 5, 6, 7] 2 (st' := (stX .any 38 ((sP_rb_divide a m) ++ [(6, iV ((2 * r) + (a.getD (n - 1) 0))), (7, iV ((((n : Nat) : Int) - 1) - 1))]) [.cells [.nilslice, iV 0], .row 1 (Q.map encI) 0])) (e := .normal) (ob := [∀ e ∈ (Q.map encI : List AV), belowV 2 e = true, (iV (IntKind.wrap .i64 ((((n : Nat) : Int) - 1) - 1)) : AV) = (iV ((((n : Nat) : Int) - 1) - 1) : AV)]) ⟨below_ids (ids_map (fun _ => rfl) _), iW (w64 (by omega) (by omega)), trivial⟩ ?_
      exact loop_g [0, 1, 4, 5, 6, 7] 2 ((n - 1) + 1) (by omega) rfl (s' := (stX .any 38 ((sP_rb_divide a m) ++ [(6, iV ((2 * r) + (a.getD (n - 1) 0))), (7, iV ((((n : Nat) : Int) - 1) - 1))]) [.cells [.nilslice, iV 0], .row 1 (Q.map encI) 0])) (ob := [∀ e ∈ (Q.map encI : List AV), idsOf e = []]) (by kernel_rfl) ⟨ids_map (fun _ => rfl) _, trivial⟩ (⟨Q, ((2 * r) + (a.getD (n - 1) 0)), (n - 1), (by omega), (by omega), (by omega), hq, (fun k hk => hz k (by omega)), div_no (by omega) hs hz, rfl, by first | rfl | (rw [show (((n - 1 : Nat)) : Int) = ((n : Nat) : Int) - 1 by omega]; done) | (rw [show (((n - 1 : Nat)) : Int) = ((n : Nat) : Int) - 1 by omega]; rfl)⟩)
  · refine Ok.ev2 400 [.d, .v (.bool false)] [0, 1, 4, 5, 6, 7, 15] 2 (st' := (stX .any 38 ((sP_rb_divide a m) ++ [(6, iV r), (7, iV (((n : Nat) : Int) - 1)), (15, .bool false)]) [.cells [.nilslice, iV 0], .row 1 (Q.map encI) 0])) (e := .normal) (ob := [∀ e ∈ (Q.map encI : List AV), belowV 2 e = true, (.bool (decide ((((n : Nat) : Int) - 1) ≥ 0)) : AV) = (.bool false : AV)]) ⟨below_ids (ids_map (fun _ => rfl) _), (bF q1), trivial⟩ ?_
    refine seq_n ?_
    refine Ok.ev2 400 [.d] [4, 5, 6] 2 (st' := (stX .any 38 [(4, .ptr 0 0), (5, .slice 1 0 a.length 0), (6, iV r)] [.cells [.nilslice, iV 0], .row 1 (Q.map encI) 0])) (e := (.exit 0)) (ob := [∀ e ∈ (Q.map encI : List AV), belowV 2 e = true]) ⟨below_ids (ids_map (fun _ => rfl) _), trivial⟩ ?_
    refine seq_e ?_
    refine loopg_e ?_
    refine blkQ_here ?_
    refine seq_n ?_
    refine Ok.sq [true, true, true, true] ?_
    refine Ok.frz [4, 5, 6] 1 (st' := (stX .any 38 [(4, .ptr 0 0), (5, .list (((Q.map encI).drop 0).take a.length)), (6, iV r)] [.cells [.nilslice, iV 0]])) (ob := [∀ e ∈ (Q.map encI : List AV), idsOf e = []]) (by kernel_rfl) ⟨ids_map (fun _ => rfl) _, trivial⟩ ?_
    refine Ok.told (st2 := (stX .any 38 [(4, .ptr 0 0), (5, .list (Q.map encI)), (6, iV r)] [.cells [.nilslice, iV 0]])) (by rw [rowOut (by first | rfl | omega | (simp; done) | (simp [sh_len]; done) | (simp [sh_len]; omega))]) ?_
    refine Ok.ev2 400 [.d, .f false (.list ((bl (val Q)).map encI)), .d, .d, .d] [4] 1 (st' := (stX .any 38 [(4, .ptr 0 0)] [.cells [.list ((bl (val Q)).map encI), iV r]])) (e := .normal) (ob := [FnF Try.prog 95 false [.list (Q.map encI)] (.list ((bl (val Q)).map encI))]) ⟨rb_cut (a := Q) hq (by omega), trivial⟩ ?_
    refine seq_n ?_
    refine Ok.ev2 400 [] [4] 1 (st' := (stX .any 38 [(4, .ptr 0 0)] [.cells [.list ((bl (val Q)).map encI), iV r]])) (e := .ret) (ob := []) trivial ?_
    refine ⟨.inr rfl, finF_of (ob := [((bl (val Q)).map encI : List AV) = (bl (val a / m)).map encI, (r : Int) = val a % m]) (by kernel_rfl) ⟨?_, ?_, trivial⟩⟩ <;> (have hd := div_is (a := val a) (q := val Q) (r := r) h1 (by rw [show n = 0 by omega, List.drop_zero, List.drop_zero] at hs; exact hs) (by omega) (by omega); first | rw [hd.1] | rw [hd.2])

end Go.Proofs.Ytkijlggnnbdeiaa
