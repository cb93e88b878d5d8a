/- Books and risks of descriptions -/
import Derived.Test.YtkijlggnnbdeiaaPrSho
import Derived.Test.YtkijlggnnbdeiaaProg
set_option linter.unusedVariables false
set_option linter.unusedSimpArgs false
namespace Go.Proofs.Ytkijlggnnbdeiaa
open Go.RowKit
set_option maxRecDepth 100000

abbrev enc8 (x : Int) : AV := .int .u8 x
def U8L (l : List Int) : Prop := ∀ x ∈ l, 0 ≤ x ∧ x ≤ 255
theorem u8_get {l : List Int} (h : U8L l) (n : Nat) : 0 ≤ l.getD n 0 ∧ l.getD n 0 ≤ 255 := by
  by_cases hn : n < l.length
  · rw [getD_is hn]; exact h _ (List.getElem_mem hn)
  · rw [List.getD_eq_getElem?_getD, List.getElem?_eq_none (by omega)]; simp
/-- The book of a description: kinds 1 .. n. -/
def bookN (l : List Int) : Nat → List An
  | 0 => []
  | n + 1 => bookN l n ++ [⟨n + 1, l.getD (2 * n) 0 % 8, l.getD (2 * n + 1) 0 % 8⟩]
def bookC (l : List Int) : Nat := if l.length / 2 ≤ 14 then l.length / 2 else 14
def bookF (l : List Int) : List An := bookN l (bookC l)
def riskN (l : List Int) : Nat → List Rk
  | 0 => []
  | n + 1 => riskN l n ++ [⟨l.getD (3 * n) 0 % 4, 1 + l.getD (3 * n + 1) 0 % 14, l.getD (3 * n + 2) 0⟩]
def riskC (l : List Int) : Nat := if l.length / 3 ≤ 12 then l.length / 3 else 12
def riskF (l : List Int) : List Rk := riskN l (riskC l)
theorem book_len (l : List Int) : ∀ n, (bookN l n).length = n
  | 0 => rfl
  | n + 1 => by rw [bookN, List.length_append, book_len l n]; rfl
theorem risk_len (l : List Int) : ∀ n, (riskN l n).length = n
  | 0 => rfl
  | n + 1 => by rw [riskN, List.length_append, risk_len l n]; rfl
theorem bookF_len (l : List Int) : (bookF l).length ≤ 14 := by unfold bookF bookC; rw [book_len]; split <;> omega
theorem riskF_len (l : List Int) : (riskF l).length ≤ 12 := by unfold riskF riskC; rw [risk_len]; split <;> omega
theorem book_get (l : List Int) : ∀ n i, i < n → (bookN l n).getD i q0 = ⟨i + 1, l.getD (2 * i) 0 % 8, l.getD (2 * i + 1) 0 % 8⟩
  | 0, i, h => by omega
  | n + 1, i, h => by
    rw [bookN, List.getD_eq_getElem?_getD]
    by_cases hi : i < n
    · rw [List.getElem?_append_left (by rw [book_len]; exact hi), ← List.getD_eq_getElem?_getD, book_get l n i hi]
    · have : i = n := by omega
      subst this
      rw [List.getElem?_append_right (by rw [book_len]; omega), book_len]
      simp
theorem risk_get (l : List Int) : ∀ n i, i < n → (riskN l n).getD i k0 = ⟨l.getD (3 * i) 0 % 4, 1 + l.getD (3 * i + 1) 0 % 14, l.getD (3 * i + 2) 0⟩
  | 0, i, h => by omega
  | n + 1, i, h => by
    rw [riskN, List.getD_eq_getElem?_getD]
    by_cases hi : i < n
    · rw [List.getElem?_append_left (by rw [risk_len]; exact hi), ← List.getD_eq_getElem?_getD, risk_get l n i hi]
    · have : i = n := by omega
      subst this
      rw [List.getElem?_append_right (by rw [risk_len]; omega), risk_len]
      simp
theorem book_right {l : List Int} (h : U8L l) : RightP (bookF l) := by
  have hl := bookF_len l
  unfold bookF at *
  rw [book_len] at hl
  intro n hn
  rw [book_len] at hn
  unfold OkAt
  have h1 := u8_get h (2 * n)
  have h2 := u8_get h (2 * n + 1)
  by_cases hz : 0 < n
  · rw [book_get l _ n hn, book_get l _ (n - 1) (by omega)]
    simp only
    omega
  · rw [book_get l _ n hn]
    simp only
    omega
theorem risk_ok {l : List Int} (h : U8L l) : ∀ r ∈ riskF l, (0 ≤ r.fi ∧ r.fi ≤ 3) ∧ (1 ≤ r.k ∧ r.k ≤ 14) ∧ 0 ≤ r.c ∧ r.c ≤ 255 := by
  intro r hr
  obtain ⟨n, hn, rfl⟩ := List.getElem_of_mem hr
  rw [← getD_is hn (d := k0)]
  unfold riskF at *
  rw [risk_len] at hn
  rw [risk_get l _ n hn]
  have h1 := u8_get h (3 * n)
  have h2 := u8_get h (3 * n + 1)
  have h3 := u8_get h (3 * n + 2)
  simp only
  omega
theorem risk_right {l : List Int} (h : U8L l) : idxF wrongK (riskF l) = -1 := idx_neg' fun r hr => by
  have := risk_ok h r hr
  unfold wrongK wrongR
  rw [decide_eq_false]
  omega
theorem bookC_is {l : List Int} {n : Nat} (h : n ≤ 14 ∧ 2 * n ≤ l.length) (h2 : ¬ (n + 1 ≤ 14 ∧ 2 * (n + 1) ≤ l.length)) : n = bookC l := by unfold bookC; split <;> omega
theorem riskC_is {l : List Int} {n : Nat} (h : n ≤ 12 ∧ 3 * n ≤ l.length) (h2 : ¬ (n + 1 ≤ 12 ∧ 3 * (n + 1) ≤ l.length)) : n = riskC l := by unfold riskC; split <;> omega
theorem book_out {l : List Int} {n j : Nat} (hj : j = n) (e : n = bookC l) : (((bookN l n).map encQ).drop 0).take j = (bookF l).map encQ := by
  subst e; exact rowOut (by rw [hj, book_len])
theorem risk_out {l : List Int} {n j : Nat} (hj : j = n) (e : n = riskC l) : (((riskN l n).map encK).drop 0).take j = (riskF l).map encK := by
  subst e; exact rowOut (by rw [hj, risk_len])
theorem app_book {l : List Int} {n k : Nat} {u v w : Int} (hk : k = n) (hu : u = n + 1) (hv : v = l.getD (2 * n) 0 % 8) (hw : w = l.getD (2 * n + 1) 0 % 8) : ((bookN l n).map encQ).take k ++ [.agg [.int .i64 u, .int .i64 v, .int .i64 w]] = (bookN l (n + 1)).map encQ := by
  subst hk; subst hu; subst hv; subst hw
  rw [List.take_of_length_le (by rw [List.length_map, book_len]; exact Nat.le_refl _), bookN, List.map_append]; rfl
theorem app_risk {l : List Int} {n k : Nat} {u v w : Int} (hk : k = n) (hu : u = l.getD (3 * n) 0 % 4) (hv : v = 1 + l.getD (3 * n + 1) 0 % 14) (hw : w = l.getD (3 * n + 2) 0) : ((riskN l n).map encK).take k ++ [.agg [.int .i64 u, .int .i64 v, .int .i64 w]] = (riskN l (n + 1)).map encK := by
  subst hk; subst hu; subst hv; subst hw
  rw [List.take_of_length_le (by rw [List.length_map, risk_len]; exact Nat.le_refl _), riskN, List.map_append]; rfl

def oP_pr_book (l : List Int) (n : Nat) : List Prop := [∀ e ∈ ((bookN l n).map encQ : List AV), belowV 1 e = true, (.bool (decide ((((n : Nat) : Int) + 1) ≤ 14)) : AV) = (.bool true : AV), (iV (IntKind.wrap .i64 (2 * (((n : Nat) : Int) + 1))) : AV) = (iV (2 * (((n : Nat) : Int) + 1)) : AV), (iV (((l.map enc8).length : Nat) : Int) : AV) = (iV (l.length : Int) : AV)]
theorem pr_book {l : List Int} (h8 : U8L l) (hl8 : l.length ≤ 9223372036854775807) : FnF Try.prog 10 true [.list (l.map enc8)] (.list ((bookF l).map encQ)) := by
  refine fn_walkF Try.func10 (by kernel_rfl) (by kernel_rfl) (by kernel_rfl) (st := (stX (.tuple []) 39 [(0, .list (l.map enc8))] [])) rfl ?_
  refine Ok.sq [] ?_
  refine Ok.ev2 400 [.d] [0, 2, 3] 0 (st' := (stX .any 39 [(0, .list (l.map enc8)), (2, .nilslice), (3, .tuple [])] [])) (e := .normal) (ob := []) trivial ?_
  refine seq_n ?_
  refine Ok.sq [true] ?_
  refine Ok.ev2 400 [.d, .d] [0, 2, 3, 4] 1 (st' := (stX .any 39 [(0, .list (l.map enc8)), (2, .nilslice), (3, .slice 0 0 0 0)] [.row 3 [] 0])) (e := .normal) (ob := [∀ e ∈ ([] : List AV), belowV 1 e = true]) ⟨(by simp [belowV, idsOf, idsL]), trivial⟩ ?_
  refine seq_n ?_
  refine Ok.sq [true, true] ?_
  refine Ok.sq [true, true, false] ?_
  refine Ok.ev2 400 [.d] [0, 2, 3, 4] 1 (st' := (stX .any 39 [(0, .list (l.map enc8)), (2, .nilslice), (3, .slice 0 0 0 0), (4, iV 1)] [.row 3 [] 0])) (e := .normal) (ob := [∀ e ∈ ([] : List AV), belowV 1 e = true]) ⟨(by simp [belowV, idsOf, idsL]), trivial⟩ ?_
  refine seq_n ?_
  refine Ok.bk [true, true, false, true] 0 ?_
  refine Ok.loopB [true, true, false, true, false] (by kernel_rfl) (fun m_ s_ => ∃ (n : Nat) (j : Nat), (j = n) ∧ (n ≤ 14 ∧ 2 * n ≤ l.length) ∧ m_ = 14 - n ∧ s_ = (stX .any 39 [(0, .list (l.map enc8)), (2, .nilslice), (3, .slice 0 0 j 0), (4, iV (((n : Nat) : Int) + 1))] [.row 3 ((bookN l n).map encQ) 0])) (14 - 0) (⟨0, 0, rfl, (by omega), rfl, rfl⟩) ?_
  rintro m_ s_ ⟨n, j, hj, hn, rfl, rfl⟩
  have kg0 : 0 ≤ l.getD (2 * n) 0 ∧ l.getD (2 * n) 0 ≤ 255 := u8_get h8 _
  have kg1 : 0 ≤ l.getD (2 * n + 1) 0 ∧ l.getD (2 * n + 1) 0 ≤ 255 := u8_get h8 _
  refine Ok.sq [true, true, false, true, false, false] ?_
  refine Ok.sq [true, true, false, true, false, false, false] ?_
  by_cases q1 : (((n : Nat) : Int) + 1) ≤ 14
  · by_cases q2 : (2 * (((n : Nat) : Int) + 1)) ≤ (l.length : Int)
    · refine Ok.ev2 400 [.d, .v (.bool true), .d, .d, .v (iV (2 * (((n : Nat) : Int) + 1))), .d, .v (iV (l.length : Int)), .v (.bool true), .d] [0, 2, 3, 4, 14] 1 (st' := (stX .any 39 [(0, .list (l.map enc8)), (2, .nilslice), (3, .slice 0 0 j 0), (4, iV (((n : Nat) : Int) + 1)), (14, .bool true)] [.row 3 ((bookN l n).map encQ) 0])) (e := .normal) (ob := ((oP_pr_book l n) ++ [(.bool (decide ((2 * (((n : Nat) : Int) + 1)) ≤ (l.length : Int))) : AV) = (.bool true : AV)])) ⟨below_ids (ids_map (fun _ => rfl) _), (bT q1), iW (w64 (by omega) (by omega)), len_map, (bT q2), trivial⟩ ?_
      refine seq_n ?_
      refine Ok.ev2 400 [.d] [0, 2, 3, 4] 1 (st' := (stX .any 39 [(0, .list (l.map enc8)), (2, .nilslice), (3, .slice 0 0 j 0), (4, iV (((n : Nat) : Int) + 1))] [.row 3 ((bookN l n).map encQ) 0])) (e := .normal) (ob := [∀ e ∈ ((bookN l n).map encQ : List AV), belowV 1 e = true]) ⟨below_ids (ids_map (fun _ => rfl) _), trivial⟩ ?_
      refine seq_n ?_
      refine Ok.ev2 400 [.d, .d, .d, .d, .v (iV (2 * (((n : Nat) : Int) + 1))), .v (iV ((2 * (((n : Nat) : Int) + 1)) - 2)), .e (enc8 (l.getD (2 * n) 0)), .d, .v (.int .u8 ((l.getD (2 * n) 0) % 8)), .v (iV ((l.getD (2 * n) 0) % 8)), .d, .d, .v (iV (2 * (((n : Nat) : Int) + 1))), .v (iV ((2 * (((n : Nat) : Int) + 1)) - 1)), .e (enc8 (l.getD (2 * n + 1) 0)), .d, .v (.int .u8 ((l.getD (2 * n + 1) 0) % 8)), .v (iV ((l.getD (2 * n + 1) 0) % 8)), .d, .d, .r ((bookN l (n + 1)).map encQ), .d, .d, .v (iV ((((n : Nat) : Int) + 1) + 1)), .d] [0, 2, 3, 4] 1 (st' := (stX .any 39 [(0, .list (l.map enc8)), (2, .nilslice), (3, .slice 0 0 (j + 1) 1), (4, iV ((((n : Nat) : Int) + 1) + 1))] [.row 3 ((bookN l (n + 1)).map encQ) 1])) (e := .normal) (ob := [∀ e ∈ ((bookN l (n + 1)).map encQ : List AV), belowV 1 e = true, (iV (IntKind.wrap .i64 (2 * (((n : Nat) : Int) + 1))) : AV) = (iV (2 * (((n : Nat) : Int) + 1)) : AV), (iV (IntKind.wrap .i64 ((2 * (((n : Nat) : Int) + 1)) - 2)) : AV) = (iV ((2 * (((n : Nat) : Int) + 1)) - 2) : AV), 0 ≤ (2 * (((n : Nat) : Int) + 1)) - 2, (l.map enc8)[((2 * (((n : Nat) : Int) + 1)) - 2).toNat]? = some (enc8 (l.getD (2 * n) 0) : AV), (.int .u8 ((l.getD (2 * n) 0).tmod 8) : AV) = (.int .u8 ((l.getD (2 * n) 0) % 8) : AV), (8 : Int) ≠ 0, (iV (IntKind.wrap .i64 ((l.getD (2 * n) 0) % 8)) : AV) = (iV ((l.getD (2 * n) 0) % 8) : AV), (iV (IntKind.wrap .i64 (2 * (((n : Nat) : Int) + 1))) : AV) = (iV (2 * (((n : Nat) : Int) + 1)) : AV), (iV (IntKind.wrap .i64 ((2 * (((n : Nat) : Int) + 1)) - 1)) : AV) = (iV ((2 * (((n : Nat) : Int) + 1)) - 1) : AV), 0 ≤ (2 * (((n : Nat) : Int) + 1)) - 1, (l.map enc8)[((2 * (((n : Nat) : Int) + 1)) - 1).toNat]? = some (enc8 (l.getD (2 * n + 1) 0) : AV), (.int .u8 ((l.getD (2 * n + 1) 0).tmod 8) : AV) = (.int .u8 ((l.getD (2 * n + 1) 0) % 8) : AV), (8 : Int) ≠ 0, (iV (IntKind.wrap .i64 ((l.getD (2 * n + 1) 0) % 8)) : AV) = (iV ((l.getD (2 * n + 1) 0) % 8) : AV), (((bookN l n).map encQ).take j ++ [.agg [iV (((n : Nat) : Int) + 1), iV ((l.getD (2 * n) 0) % 8), iV ((l.getD (2 * n + 1) 0) % 8)]] : List AV) = (bookN l (n + 1)).map encQ, (2 * (j + ([.agg [iV (((n : Nat) : Int) + 1), iV ((l.getD (2 * n) 0) % 8), iV ((l.getD (2 * n + 1) 0) % 8)]] : List AV).length) + 1024) * 24 ≤ 2 ^ 48, ∀ y ∈ ([.agg [iV (((n : Nat) : Int) + 1), iV ((l.getD (2 * n) 0) % 8), iV ((l.getD (2 * n + 1) 0) % 8)]] : List AV), (cellsOf y).length = 3 ∧ ∀ c ∈ cellsOf y, isCell c = true, (iV (IntKind.wrap .i64 ((((n : Nat) : Int) + 1) + 1)) : AV) = (iV ((((n : Nat) : Int) + 1) + 1) : AV)]) ⟨below_ids (ids_map (fun _ => rfl) _), iW (w64 (by omega) (by omega)), iW (w64 (by omega) (by omega)), (by omega), elemN (by omega) (by omega), iI (Int.tmod_eq_emod_of_nonneg (by omega)), (by decide), iW (w64 (by omega) (by omega)), iW (w64 (by omega) (by omega)), iW (w64 (by omega) (by omega)), (by omega), elemN (by omega) (by omega), iI (Int.tmod_eq_emod_of_nonneg (by omega)), (by decide), iW (w64 (by omega) (by omega)), app_book (by omega) (by omega) (by omega) (by omega), (by simp; omega), (by simp [cellsOf, isCell]), iW (w64 (by omega) (by omega)), trivial⟩ ?_
      exact loop_g [0, 2, 3, 4] 1 (14 - (n + 1)) (by omega) rfl (s' := (stX .any 39 [(0, .list (l.map enc8)), (2, .nilslice), (3, .slice 0 0 (j + 1) 0), (4, iV ((((n : Nat) : Int) + 1) + 1))] [.row 3 ((bookN l (n + 1)).map encQ) 0])) (ob := [∀ e ∈ ((bookN l (n + 1)).map encQ : List AV), idsOf e = []]) (by kernel_rfl) ⟨ids_map (fun _ => rfl) _, trivial⟩ (⟨(n + 1), (j + 1), (by omega), (by omega), rfl, by first | rfl | (simp; omega)⟩)
    · refine Ok.ev2 400 [.d, .v (.bool true), .d, .d, .v (iV (2 * (((n : Nat) : Int) + 1))), .d, .v (iV (l.length : Int)), .v (.bool false), .d] [0, 2, 3, 4, 14] 1 (st' := (stX .any 39 [(0, .list (l.map enc8)), (2, .nilslice), (3, .slice 0 0 j 0), (4, iV (((n : Nat) : Int) + 1)), (14, .bool false)] [.row 3 ((bookN l n).map encQ) 0])) (e := .normal) (ob := ((oP_pr_book l n) ++ [(.bool (decide ((2 * (((n : Nat) : Int) + 1)) ≤ (l.length : Int))) : AV) = (.bool false : AV)])) ⟨below_ids (ids_map (fun _ => rfl) _), (bT q1), iW (w64 (by omega) (by omega)), len_map, (bF q2), trivial⟩ ?_
      refine seq_n ?_
      refine Ok.ev2 400 [.d] [2, 3] 1 (st' := (stX .any 39 [(2, .nilslice), (3, .slice 0 0 j 0)] [.row 3 ((bookN l n).map encQ) 0])) (e := (.exit 0)) (ob := [∀ e ∈ ((bookN l n).map encQ : List AV), belowV 1 e = true]) ⟨below_ids (ids_map (fun _ => rfl) _), trivial⟩ ?_
      refine seq_e ?_
      refine loopg_e ?_
      refine blkQ_here ?_
      refine seq_n ?_
      refine Ok.ev2 400 [.d, .d] [2] 1 (st' := (stX .any 39 [(2, .slice 0 0 j 0)] [.row 3 ((bookN l n).map encQ) 0])) (e := .ret) (ob := [∀ e ∈ ((bookN l n).map encQ : List AV), belowV 1 e = true]) ⟨below_ids (ids_map (fun _ => rfl) _), trivial⟩ ?_
      exact ⟨.inr rfl, finF_of (ob := [(((bookN l n).map encQ : List AV).drop 0).take j = (bookF l).map encQ, ∀ e ∈ ((bookN l n).map encQ : List AV), plainE e]) (by kernel_rfl) ⟨book_out hj (bookC_is hn (by omega)), pl_map (fun _ => rfl) (fun _ => rfl) _, trivial⟩⟩
  · refine Ok.ev2 400 [.d, .v (.bool false), .d, .d, .d, .d, .d, .d, .d] [0, 2, 3, 4, 14] 1 (st' := (stX .any 39 [(0, .list (l.map enc8)), (2, .nilslice), (3, .slice 0 0 j 0), (4, iV (((n : Nat) : Int) + 1)), (14, .bool false)] [.row 3 ((bookN l n).map encQ) 0])) (e := .normal) (ob := [∀ e ∈ ((bookN l n).map encQ : List AV), belowV 1 e = true, (.bool (decide ((((n : Nat) : Int) + 1) ≤ 14)) : AV) = (.bool false : AV)]) ⟨below_ids (ids_map (fun _ => rfl) _), (bF q1), trivial⟩ ?_
    refine seq_n ?_
    refine Ok.ev2 400 [.d] [2, 3] 1 (st' := (stX .any 39 [(2, .nilslice), (3, .slice 0 0 j 0)] [.row 3 ((bookN l n).map encQ) 0])) (e := (.exit 0)) (ob := [∀ e ∈ ((bookN l n).map encQ : List AV), belowV 1 e = true]) ⟨below_ids (ids_map (fun _ => rfl) _), trivial⟩ ?_
    refine seq_e ?_
    refine loopg_e ?_
    refine blkQ_here ?_
    refine seq_n ?_
    refine Ok.ev2 400 [.d, .d] [2] 1 (st' := (stX .any 39 [(2, .slice 0 0 j 0)] [.row 3 ((bookN l n).map encQ) 0])) (e := .ret) (ob := [∀ e ∈ ((bookN l n).map encQ : List AV), belowV 1 e = true]) ⟨below_ids (ids_map (fun _ => rfl) _), trivial⟩ ?_
    exact ⟨.inr rfl, finF_of (ob := [(((bookN l n).map encQ : List AV).drop 0).take j = (bookF l).map encQ, ∀ e ∈ ((bookN l n).map encQ : List AV), plainE e]) (by kernel_rfl) ⟨book_out hj (bookC_is hn (by omega)), pl_map (fun _ => rfl) (fun _ => rfl) _, trivial⟩⟩

def oP_pr_risks (l : List Int) (n : Nat) : List Prop := [∀ e ∈ ((riskN l n).map encK : List AV), belowV 1 e = true, (iV (IntKind.wrap .i64 (3 * ((n : Nat) : Int))) : AV) = (iV (3 * ((n : Nat) : Int)) : AV), (iV (IntKind.wrap .i64 ((3 * ((n : Nat) : Int)) + 2)) : AV) = (iV ((3 * ((n : Nat) : Int)) + 2) : AV), (iV (((l.map enc8).length : Nat) : Int) : AV) = (iV (l.length : Int) : AV)]
theorem pr_risks {l : List Int} (h8 : U8L l) (hl8 : l.length ≤ 9223372036854775807) : FnF Try.prog 14 true [.list (l.map enc8)] (.list ((riskF l).map encK)) := by
  refine fn_walkF Try.func14 (by kernel_rfl) (by kernel_rfl) (by kernel_rfl) (st := (stX (.tuple []) 46 [(0, .list (l.map enc8))] [])) rfl ?_
  refine Ok.sq [] ?_
  refine Ok.ev2 400 [.d] [0, 2, 3] 0 (st' := (stX .any 46 [(0, .list (l.map enc8)), (2, .nilslice), (3, .tuple [])] [])) (e := .normal) (ob := []) trivial ?_
  refine seq_n ?_
  refine Ok.sq [true] ?_
  refine Ok.ev2 400 [.d, .d] [0, 2, 3, 4] 1 (st' := (stX .any 46 [(0, .list (l.map enc8)), (2, .nilslice), (3, .slice 0 0 0 0)] [.row 3 [] 0])) (e := .normal) (ob := [∀ e ∈ ([] : List AV), belowV 1 e = true]) ⟨(by simp [belowV, idsOf, idsL]), trivial⟩ ?_
  refine seq_n ?_
  refine Ok.sq [true, true] ?_
  refine Ok.sq [true, true, false] ?_
  refine Ok.ev2 400 [.d] [0, 2, 3, 4] 1 (st' := (stX .any 46 [(0, .list (l.map enc8)), (2, .nilslice), (3, .slice 0 0 0 0), (4, iV 0)] [.row 3 [] 0])) (e := .normal) (ob := [∀ e ∈ ([] : List AV), belowV 1 e = true]) ⟨(by simp [belowV, idsOf, idsL]), trivial⟩ ?_
  refine seq_n ?_
  refine Ok.bk [true, true, false, true] 0 ?_
  refine Ok.loopB [true, true, false, true, false] (by kernel_rfl) (fun m_ s_ => ∃ (n : Nat) (j : Nat), (j = n) ∧ (n ≤ 12 ∧ 3 * n ≤ l.length) ∧ m_ = 12 - n ∧ s_ = (stX .any 46 [(0, .list (l.map enc8)), (2, .nilslice), (3, .slice 0 0 j 0), (4, iV ((n : Nat) : Int))] [.row 3 ((riskN l n).map encK) 0])) (12 - 0) (⟨0, 0, rfl, (by omega), rfl, rfl⟩) ?_
  rintro m_ s_ ⟨n, j, hj, hn, rfl, rfl⟩
  have kg0 : 0 ≤ l.getD (3 * n) 0 ∧ l.getD (3 * n) 0 ≤ 255 := u8_get h8 _
  have kg1 : 0 ≤ l.getD (3 * n + 1) 0 ∧ l.getD (3 * n + 1) 0 ≤ 255 := u8_get h8 _
  have kg2 : 0 ≤ l.getD (3 * n + 2) 0 ∧ l.getD (3 * n + 2) 0 ≤ 255 := u8_get h8 _
  refine Ok.sq [true, true, false, true, false, false] ?_
  refine Ok.sq [true, true, false, true, false, false, false] ?_
  by_cases q1 : ((3 * ((n : Nat) : Int)) + 2) < (l.length : Int)
  · by_cases q2 : ((n : Nat) : Int) < 12
    · refine Ok.ev2 400 [.d, .v (iV (3 * ((n : Nat) : Int))), .v (iV ((3 * ((n : Nat) : Int)) + 2)), .d, .v (iV (l.length : Int)), .v (.bool true), .d, .d, .v (.bool true), .d] [0, 2, 3, 4, 15] 1 (st' := (stX .any 46 [(0, .list (l.map enc8)), (2, .nilslice), (3, .slice 0 0 j 0), (4, iV ((n : Nat) : Int)), (15, .bool true)] [.row 3 ((riskN l n).map encK) 0])) (e := .normal) (ob := ((oP_pr_risks l n) ++ [(.bool (decide (((3 * ((n : Nat) : Int)) + 2) < (l.length : Int))) : AV) = (.bool true : AV), (.bool (decide (((n : Nat) : Int) < 12)) : AV) = (.bool true : AV)])) ⟨below_ids (ids_map (fun _ => rfl) _), iW (w64 (by omega) (by omega)), iW (w64 (by omega) (by omega)), len_map, (bT q1), (bT q2), trivial⟩ ?_
      refine seq_n ?_
      refine Ok.ev2 400 [.d] [0, 2, 3, 4] 1 (st' := (stX .any 46 [(0, .list (l.map enc8)), (2, .nilslice), (3, .slice 0 0 j 0), (4, iV ((n : Nat) : Int))] [.row 3 ((riskN l n).map encK) 0])) (e := .normal) (ob := [∀ e ∈ ((riskN l n).map encK : List AV), belowV 1 e = true]) ⟨below_ids (ids_map (fun _ => rfl) _), trivial⟩ ?_
      refine seq_n ?_
      refine Ok.ev2 400 [.d, .d, .d, .v (iV (3 * ((n : Nat) : Int))), .e (enc8 (l.getD (3 * n) 0)), .d, .v (.int .u8 ((l.getD (3 * n) 0) % 4)), .v (iV ((l.getD (3 * n) 0) % 4)), .d, .d, .v (iV (3 * ((n : Nat) : Int))), .v (iV ((3 * ((n : Nat) : Int)) + 1)), .e (enc8 (l.getD (3 * n + 1) 0)), .d, .v (.int .u8 ((l.getD (3 * n + 1) 0) % 14)), .v (iV ((l.getD (3 * n + 1) 0) % 14)), .v (iV (1 + ((l.getD (3 * n + 1) 0) % 14))), .d, .d, .v (iV (3 * ((n : Nat) : Int))), .v (iV ((3 * ((n : Nat) : Int)) + 2)), .e (enc8 (l.getD (3 * n + 2) 0)), .d, .v (iV (l.getD (3 * n + 2) 0)), .d, .d, .r ((riskN l (n + 1)).map encK), .d, .d, .v (iV (((n : Nat) : Int) + 1)), .d] [0, 2, 3, 4] 1 (st' := (stX .any 46 [(0, .list (l.map enc8)), (2, .nilslice), (3, .slice 0 0 (j + 1) 1), (4, iV (((n : Nat) : Int) + 1))] [.row 3 ((riskN l (n + 1)).map encK) 1])) (e := .normal) (ob := [∀ e ∈ ((riskN l (n + 1)).map encK : List AV), belowV 1 e = true, (iV (IntKind.wrap .i64 (3 * ((n : Nat) : Int))) : AV) = (iV (3 * ((n : Nat) : Int)) : AV), 0 ≤ 3 * ((n : Nat) : Int), (l.map enc8)[(3 * ((n : Nat) : Int)).toNat]? = some (enc8 (l.getD (3 * n) 0) : AV), (.int .u8 ((l.getD (3 * n) 0).tmod 4) : AV) = (.int .u8 ((l.getD (3 * n) 0) % 4) : AV), (4 : Int) ≠ 0, (iV (IntKind.wrap .i64 ((l.getD (3 * n) 0) % 4)) : AV) = (iV ((l.getD (3 * n) 0) % 4) : AV), (iV (IntKind.wrap .i64 (3 * ((n : Nat) : Int))) : AV) = (iV (3 * ((n : Nat) : Int)) : AV), (iV (IntKind.wrap .i64 ((3 * ((n : Nat) : Int)) + 1)) : AV) = (iV ((3 * ((n : Nat) : Int)) + 1) : AV), 0 ≤ (3 * ((n : Nat) : Int)) + 1, (l.map enc8)[((3 * ((n : Nat) : Int)) + 1).toNat]? = some (enc8 (l.getD (3 * n + 1) 0) : AV), (.int .u8 ((l.getD (3 * n + 1) 0).tmod 14) : AV) = (.int .u8 ((l.getD (3 * n + 1) 0) % 14) : AV), (14 : Int) ≠ 0, (iV (IntKind.wrap .i64 ((l.getD (3 * n + 1) 0) % 14)) : AV) = (iV ((l.getD (3 * n + 1) 0) % 14) : AV), (iV (IntKind.wrap .i64 (1 + ((l.getD (3 * n + 1) 0) % 14))) : AV) = (iV (1 + ((l.getD (3 * n + 1) 0) % 14)) : AV), (iV (IntKind.wrap .i64 (3 * ((n : Nat) : Int))) : AV) = (iV (3 * ((n : Nat) : Int)) : AV), (iV (IntKind.wrap .i64 ((3 * ((n : Nat) : Int)) + 2)) : AV) = (iV ((3 * ((n : Nat) : Int)) + 2) : AV), 0 ≤ (3 * ((n : Nat) : Int)) + 2, (l.map enc8)[((3 * ((n : Nat) : Int)) + 2).toNat]? = some (enc8 (l.getD (3 * n + 2) 0) : AV), (iV (IntKind.wrap .i64 ((l.getD (3 * n + 2) 0))) : AV) = (iV (l.getD (3 * n + 2) 0) : AV), (((riskN l n).map encK).take j ++ [.agg [iV ((l.getD (3 * n) 0) % 4), iV (1 + ((l.getD (3 * n + 1) 0) % 14)), iV (l.getD (3 * n + 2) 0)]] : List AV) = (riskN l (n + 1)).map encK, (2 * (j + ([.agg [iV ((l.getD (3 * n) 0) % 4), iV (1 + ((l.getD (3 * n + 1) 0) % 14)), iV (l.getD (3 * n + 2) 0)]] : List AV).length) + 1024) * 24 ≤ 2 ^ 48, ∀ y ∈ ([.agg [iV ((l.getD (3 * n) 0) % 4), iV (1 + ((l.getD (3 * n + 1) 0) % 14)), iV (l.getD (3 * n + 2) 0)]] : List AV), (cellsOf y).length = 3 ∧ ∀ c ∈ cellsOf y, isCell c = true, (iV (IntKind.wrap .i64 (((n : Nat) : Int) + 1)) : AV) = (iV (((n : Nat) : Int) + 1) : AV)]) ⟨below_ids (ids_map (fun _ => rfl) _), iW (w64 (by omega) (by omega)), (by omega), elemN (by omega) (by omega), iI (Int.tmod_eq_emod_of_nonneg (by omega)), (by decide), iW (w64 (by omega) (by omega)), iW (w64 (by omega) (by omega)), iW (w64 (by omega) (by omega)), (by omega), elemN (by omega) (by omega), iI (Int.tmod_eq_emod_of_nonneg (by omega)), (by decide), iW (w64 (by omega) (by omega)), iW (w64 (by omega) (by omega)), iW (w64 (by omega) (by omega)), iW (w64 (by omega) (by omega)), (by omega), elemN (by omega) (by omega), iW (w64 (by omega) (by omega)), app_risk (by omega) (by omega) (by omega) (by omega), (by simp; omega), (by simp [cellsOf, isCell]), iW (w64 (by omega) (by omega)), trivial⟩ ?_
      exact loop_g [0, 2, 3, 4] 1 (12 - (n + 1)) (by omega) rfl (s' := (stX .any 46 [(0, .list (l.map enc8)), (2, .nilslice), (3, .slice 0 0 (j + 1) 0), (4, iV (((n : Nat) : Int) + 1))] [.row 3 ((riskN l (n + 1)).map encK) 0])) (ob := [∀ e ∈ ((riskN l (n + 1)).map encK : List AV), idsOf e = []]) (by kernel_rfl) ⟨ids_map (fun _ => rfl) _, trivial⟩ (⟨(n + 1), (j + 1), (by omega), (by omega), rfl, by first | rfl | (simp; omega)⟩)
    · refine Ok.ev2 400 [.d, .v (iV (3 * ((n : Nat) : Int))), .v (iV ((3 * ((n : Nat) : Int)) + 2)), .d, .v (iV (l.length : Int)), .v (.bool true), .d, .d, .v (.bool false), .d] [0, 2, 3, 4, 15] 1 (st' := (stX .any 46 [(0, .list (l.map enc8)), (2, .nilslice), (3, .slice 0 0 j 0), (4, iV ((n : Nat) : Int)), (15, .bool false)] [.row 3 ((riskN l n).map encK) 0])) (e := .normal) (ob := ((oP_pr_risks l n) ++ [(.bool (decide (((3 * ((n : Nat) : Int)) + 2) < (l.length : Int))) : AV) = (.bool true : AV), (.bool (decide (((n : Nat) : Int) < 12)) : AV) = (.bool false : AV)])) ⟨below_ids (ids_map (fun _ => rfl) _), iW (w64 (by omega) (by omega)), iW (w64 (by omega) (by omega)), len_map, (bT q1), (bF q2), trivial⟩ ?_
      refine seq_n ?_
      refine Ok.ev2 400 [.d] [2, 3] 1 (st' := (stX .any 46 [(2, .nilslice), (3, .slice 0 0 j 0)] [.row 3 ((riskN l n).map encK) 0])) (e := (.exit 0)) (ob := [∀ e ∈ ((riskN l n).map encK : List AV), belowV 1 e = true]) ⟨below_ids (ids_map (fun _ => rfl) _), trivial⟩ ?_
      refine seq_e ?_
      refine loopg_e ?_
      refine blkQ_here ?_
      refine seq_n ?_
      refine Ok.ev2 400 [.d, .d] [2] 1 (st' := (stX .any 46 [(2, .slice 0 0 j 0)] [.row 3 ((riskN l n).map encK) 0])) (e := .ret) (ob := [∀ e ∈ ((riskN l n).map encK : List AV), belowV 1 e = true]) ⟨below_ids (ids_map (fun _ => rfl) _), trivial⟩ ?_
      exact ⟨.inr rfl, finF_of (ob := [(((riskN l n).map encK : List AV).drop 0).take j = (riskF l).map encK, ∀ e ∈ ((riskN l n).map encK : List AV), plainE e]) (by kernel_rfl) ⟨risk_out hj (riskC_is hn (by omega)), pl_map (fun _ => rfl) (fun _ => rfl) _, trivial⟩⟩
  · refine Ok.ev2 400 [.d, .v (iV (3 * ((n : Nat) : Int))), .v (iV ((3 * ((n : Nat) : Int)) + 2)), .d, .v (iV (l.length : Int)), .v (.bool false), .d, .d, .d, .d] [0, 2, 3, 4, 15] 1 (st' := (stX .any 46 [(0, .list (l.map enc8)), (2, .nilslice), (3, .slice 0 0 j 0), (4, iV ((n : Nat) : Int)), (15, .bool false)] [.row 3 ((riskN l n).map encK) 0])) (e := .normal) (ob := ((oP_pr_risks l n) ++ [(.bool (decide (((3 * ((n : Nat) : Int)) + 2) < (l.length : Int))) : AV) = (.bool false : AV)])) ⟨below_ids (ids_map (fun _ => rfl) _), iW (w64 (by omega) (by omega)), iW (w64 (by omega) (by omega)), len_map, (bF q1), trivial⟩ ?_
    refine seq_n ?_
    refine Ok.ev2 400 [.d] [2, 3] 1 (st' := (stX .any 46 [(2, .nilslice), (3, .slice 0 0 j 0)] [.row 3 ((riskN l n).map encK) 0])) (e := (.exit 0)) (ob := [∀ e ∈ ((riskN l n).map encK : List AV), belowV 1 e = true]) ⟨below_ids (ids_map (fun _ => rfl) _), trivial⟩ ?_
    refine seq_e ?_
    refine loopg_e ?_
    refine blkQ_here ?_
    refine seq_n ?_
    refine Ok.ev2 400 [.d, .d] [2] 1 (st' := (stX .any 46 [(2, .slice 0 0 j 0)] [.row 3 ((riskN l n).map encK) 0])) (e := .ret) (ob := [∀ e ∈ ((riskN l n).map encK : List AV), belowV 1 e = true]) ⟨below_ids (ids_map (fun _ => rfl) _), trivial⟩ ?_
    exact ⟨.inr rfl, finF_of (ob := [(((riskN l n).map encK : List AV).drop 0).take j = (riskF l).map encK, ∀ e ∈ ((riskN l n).map encK : List AV), plainE e]) (by kernel_rfl) ⟨risk_out hj (riskC_is hn (by omega)), pl_map (fun _ => rfl) (fun _ => rfl) _, trivial⟩⟩

end Go.Proofs.Ytkijlggnnbdeiaa
