/- Code of negations, of truths and their joins, of two equal numbers: which of it is right. No program. -/
import Derived.Test.YtejlhbdknphikaaMnM2
set_option linter.unusedVariables false
set_option linter.unusedSimpArgs false
namespace Go.Proofs.Ytejlhbdknphikaa
open Go.RowKit
set_option maxRecDepth 100000

section
variable {vs ls : List Int}
theorem exec_some {i : In} {l : List In} {s s' : List En} {m : Nat} (h : stepI vs ls s i = some s') : exec vs ls (i :: l) s m = exec vs ls l s' (max m s'.length) := by rw [exec, h]
theorem exec_none {i : In} {l : List In} {s : List En} {m : Nat} (h : stepI vs ls s i = none) : exec vs ls (i :: l) s m = none := by rw [exec, h]
theorem exec_app : ∀ (a : List In) {b : List In} {s : List En} {m : Nat}, exec vs ls (a ++ b) s m = match exec vs ls a s m with
    | none => none
    | some (s', m') => exec vs ls b s' m'
  | [], b, s, m => rfl
  | i :: a, b, s, m => by
    rw [List.cons_append, exec, exec]
    cases stepI vs ls s i with
    | none => rfl
    | some s' => exact exec_app a
theorem exec_not : ∀ (k : Nat) (v : Int) (m : Nat), 1 ≤ m → ∃ v', exec vs ls (List.replicate k ⟨15, 0⟩) [⟨true, v⟩] m = some ([⟨true, v'⟩], m)
  | 0, v, m, _ => ⟨v, rfl⟩
  | k + 1, v, m, hm => by
    rw [List.replicate_succ, exec_some (sE (i := ⟨15, 0⟩) rfl rfl (by simp) rfl)]
    have e : max m (([⟨true, v⟩] : List En).take (([⟨true, v⟩] : List En).length - 1) ++ [En.mk true (applyI vs ls ⟨15, 0⟩ (([⟨true, v⟩] : List En).getD (([⟨true, v⟩] : List En).length - 1) en0).v (([⟨true, v⟩] : List En).getD (([⟨true, v⟩] : List En).length - 1) en0).v)]).length = m := by simp; omega
    rw [e]
    exact exec_not k _ m hm
theorem exec_true : ∀ (k : Nat) (s : List En) (m : Nat), s.length ≤ m → exec vs ls (List.replicate k ⟨11, 0⟩) s m = some (s ++ List.replicate k ⟨true, 1⟩, max m (s.length + k))
  | 0, s, m, h => by
    simp only [List.replicate_zero, List.append_nil, Nat.add_zero, Nat.max_eq_left h]; rfl
  | k + 1, s, m, h => by
    rw [List.replicate_succ, exec_some (sB (i := ⟨11, 0⟩) rfl rfl), exec_true k _ _ (by simp; omega), show applyI vs ls ⟨11, 0⟩ 0 0 = 1 from rfl]
    rw [List.replicate_succ, List.append_assoc, List.singleton_append]
    congr 2
    simp; omega
theorem exec_and : ∀ (k m : Nat), k + 1 ≤ m → exec vs ls (List.replicate k ⟨16, 0⟩) (List.replicate (k + 1) ⟨true, 1⟩) m = some ([⟨true, 1⟩], m)
  | 0, m, _ => rfl
  | k + 1, m, h => by
    rw [List.replicate_succ]
    have hg : ∀ j, j < k + 2 → ((List.replicate (k + 1 + 1) (⟨true, 1⟩ : En)).getD j en0) = ⟨true, 1⟩ := fun j hj => by
      rw [List.getD_eq_getElem?_getD, List.getElem?_replicate, if_pos (by omega)]; rfl
    have hl : (List.replicate (k + 1 + 1) (⟨true, 1⟩ : En)).length = k + 2 := by simp
    rw [exec_some (sF (i := ⟨16, 0⟩) (by decide) rfl (by rw [hl]; omega) (by rw [hl, hg _ (by omega)]) (by rw [hl, hg _ (by omega)]))]
    rw [hl, hg _ (by omega), hg _ (by omega), show k + 2 - 2 = k by omega, List.take_replicate, Nat.min_eq_left (by omega), show applyI vs ls ⟨16, 0⟩ 1 1 = 1 from rfl, ← List.replicate_succ']
    rw [List.length_replicate, Nat.max_eq_left (by omega)]
    exact exec_and k m (by omega)
end
theorem good_long (i : Nat) : goodI ([⟨11, 0⟩] ++ List.replicate i ⟨15, 0⟩) = decide (i < 300) := by
  have h : (ranR [] [] ([⟨11, 0⟩] ++ List.replicate i ⟨15, 0⟩)).1 = true := by
    obtain ⟨v, hv⟩ := exec_not (vs := []) (ls := []) i 1 1 (Nat.le_refl _)
    have : exec [] [] ([⟨11, 0⟩] ++ List.replicate i ⟨15, 0⟩) [] 0 = some ([⟨true, v⟩], 1) := by
      rw [List.singleton_append, exec_some (sB (i := ⟨11, 0⟩) rfl rfl)]; exact hv
    rw [ran_ok this rfl rfl (by omega)]
  unfold goodI
  rw [h]
  simp; omega
theorem good_deep (j : Nat) : goodI (List.replicate (j + 1) ⟨11, 0⟩ ++ List.replicate j ⟨16, 0⟩) = decide (j < 40) := by
  have h : exec [] [] (List.replicate (j + 1) ⟨11, 0⟩ ++ List.replicate j ⟨16, 0⟩) [] 0 = some ([⟨true, 1⟩], j + 1) := by
    rw [exec_app, exec_true (j + 1) [] 0 (by simp)]
    simp only [List.nil_append, List.length_nil, Nat.zero_add, Nat.zero_max]
    exact exec_and j (j + 1) (Nat.le_refl _)
  unfold goodI
  by_cases hj : j < 40
  · rw [ran_ok h rfl rfl (by omega)]; simp; omega
  · rw [ran_no h (by omega)]; simp; omega
theorem good_two (n : Int) : goodI [⟨2, n⟩, ⟨1, n⟩, ⟨14, 0⟩] = decide (0 ≤ n ∧ n < 12) := by
  by_cases h : 0 ≤ n ∧ n < 12
  · have e : (ranR [] [] [⟨2, n⟩, ⟨1, n⟩, ⟨14, 0⟩]).1 = true := by
      have h2 : plainI ⟨2, n⟩ = true := by rw [pl2 rfl]; exact decide_eq_true h
      have h1 : plainI ⟨1, n⟩ = true := by rw [pl1 rfl]; exact decide_eq_true (by show -2147483648 ≤ n ∧ n ≤ 2147483647; omega)
      have : exec [] [] [⟨2, n⟩, ⟨1, n⟩, ⟨14, 0⟩] [] 0 = some ([⟨true, applyI [] [] ⟨14, 0⟩ (applyI [] [] ⟨2, n⟩ 0 0) (applyI [] [] ⟨1, n⟩ 0 0)⟩], 2) := by
        rw [exec_some (sA (i := ⟨2, n⟩) ⟨by show (1 : Int) ≤ 2; omega, by show (2 : Int) ≤ 3; omega⟩ h2), exec_some (sA (i := ⟨1, n⟩) ⟨by show (1 : Int) ≤ 1; omega, by show (1 : Int) ≤ 3; omega⟩ h1), exec_some (sD (i := ⟨14, 0⟩) (by decide) rfl (by simp) (by simp) (by simp))]; rfl
      rw [ran_ok this rfl rfl (by omega)]
    unfold goodI; rw [e, decide_eq_true h]; rfl
  · have h2 : ¬ plainI ⟨2, n⟩ = true := by rw [pl2 rfl, decide_eq_true_eq]; exact h
    have e : (ranR [] [] [⟨2, n⟩, ⟨1, n⟩, ⟨14, 0⟩]).1 = false := by rw [ran_none (exec_none (st_pl h2))]
    unfold goodI; rw [e, decide_eq_false h]; rfl
theorem rowRep {p : List In} {n i : Nat} {q : In} (h : n = p.length + i) : ((p ++ List.replicate i q).map encN).take n ++ [encN q] = (p ++ List.replicate (i + 1) q).map encN := by
  rw [List.take_of_length_le (by simp; omega), List.replicate_succ', ← List.append_assoc, List.map_append (l₁ := p ++ List.replicate i q)]; rfl
theorem rowRep0 {n i : Nat} {q : In} (h : n = i) : ((List.replicate i q).map encN).take n ++ [encN q] = (List.replicate (i + 1) q).map encN := by
  rw [List.take_of_length_le (by simp; omega), List.replicate_succ', List.map_append]; rfl
theorem OkI.rep {i : Nat} {q : In} (h : (-9223372036854775808 ≤ q.op ∧ q.op ≤ 9223372036854775807) ∧ -9223372036854775808 ≤ q.n ∧ q.n ≤ 9223372036854775807) : OkI (List.replicate i q) := fun x hx => by
  rw [(List.mem_replicate.1 hx).2]; exact h
end Go.Proofs.Ytejlhbdknphikaa
