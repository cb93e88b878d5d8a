/- What is read, in order, each once; what is not read does not matter: plain mathematics. -/
import Derived.Test.YtfhfdenmcneamaaNumIt
set_option linter.unusedVariables false
set_option linter.unusedSimpArgs false
namespace Go.Proofs.Ytfhfdenmcneamaa
open Lib Go.RowKit
set_option maxRecDepth 100000
theorem upTo_mem {d : Array Int} : ∀ {m : Nat} {x : Int}, x ∈ compactUpTo d m ↔ ∃ j, j < m ∧ x = d[j]!
  | 0, x => by
    constructor
    · intro h; simp [compactUpTo] at h
    · rintro ⟨j, h, _⟩; omega
  | m + 1, x => by
    rw [compactUpTo_succ, List.mem_append, upTo_mem (m := m)]
    constructor
    · rintro (⟨j, h1, h2⟩ | h)
      · exact ⟨j, by omega, h2⟩
      · by_cases k : keeps d m = true
        · rw [if_pos k] at h; exact ⟨m, by omega, by simpa using h⟩
        · rw [if_neg k] at h; cases h
    · rintro ⟨j, h1, h2⟩
      by_cases hj : j < m
      · exact .inl ⟨j, hj, h2⟩
      · obtain rfl : j = m := by omega
        by_cases k : keeps d j = true
        · right; rw [if_pos k]; simp [h2]
        · left
          have h0 : 0 < j := by
            rcases Nat.eq_zero_or_pos j with rfl | h
            · exact absurd (keeps_lt_one d 0 (by omega)) k
            · exact h
          refine ⟨j - 1, by omega, ?_⟩
          rw [h2]
          exact Classical.byContradiction fun q => k (keeps_pos q)
theorem upTo_lt {d : Array Int} (hd : ∀ i j, i ≤ j → j < d.size → d[i]! ≤ d[j]!) : ∀ {m : Nat}, m ≤ d.size → (compactUpTo d m).Pairwise (· < ·)
  | 0, _ => by simp [compactUpTo]
  | m + 1, h => by
    rw [compactUpTo_succ, List.pairwise_append]
    refine ⟨upTo_lt hd (by omega), ?_, ?_⟩
    · split
      · exact List.pairwise_singleton _ _
      · exact .nil
    · intro x hx y hy
      by_cases k : keeps d m = true
      · rw [if_pos k] at hy
        obtain rfl : y = d[m]! := by simpa using hy
        obtain ⟨j, hj, rfl⟩ := upTo_mem.1 hx
        have h1 := hd j (m - 1) (by omega) (by omega)
        have h2 := hd (m - 1) m (by omega) (by omega)
        have h3 : d[m]! ≠ d[m - 1]! := fun q => by
          rw [keeps_neg (by omega) q] at k; cases k
        omega
      · rw [if_neg k] at hy; cases hy
theorem sortI_mem {l : List Int} {x : Int} : x ∈ sortI l ↔ x ∈ l := (List.mergeSort_perm l _).mem_iff
theorem rdS_mem {l : List Int} {x : Int} : x ∈ rdS l ↔ x ∈ l := by
  unfold rdS compact
  rw [upTo_mem]
  constructor
  · rintro ⟨j, hj, rfl⟩
    rw [getElem!_pos _ _ (by simpa using hj)]
    have h1 : (sortI l)[j] ∈ l := sortI_mem.1 (List.getElem_mem hj)
    simpa using h1
  · intro h
    have : x ∈ sortI l := sortI_mem.2 h
    obtain ⟨j, hj, rfl⟩ := List.getElem_of_mem this
    exact ⟨j, hj, by rw [getElem!_pos (sortI l).toArray j (by simpa using hj)]; simp⟩
theorem sortI_pw (l : List Int) : (sortI l).Pairwise (· ≤ ·) := by
  have := List.pairwise_mergeSort (le := fun x y : Int => decide (x ≤ y)) (fun a b c h1 h2 => by simp at *; omega) (fun a b => by simp; omega) l
  exact this.imp (by simp)
theorem rdS_lt (l : List Int) : (rdS l).Pairwise (· < ·) := by
  unfold rdS compact
  refine upTo_lt (fun i j hij hj => ?_) (by simp)
  have hj' : j < (sortI l).length := by simpa using hj
  rw [getElem!_pos (sortI l).toArray i (by simp; omega), getElem!_pos (sortI l).toArray j hj]
  rcases Nat.lt_or_ge i j with h | h
  · have := List.pairwise_iff_getElem.1 (sortI_pw l) i j (by omega) hj' h
    simpa using this
  · obtain rfl : i = j := by omega
    exact Int.le_refl _
theorem rdS_step {l : List Int} {i k : Nat} (hk : k + 1 = i) (hi : i < (rdS l).length) : (rdS l).getD k 0 < (rdS l).getD i 0 := by
  rw [List.getD_eq_getElem?_getD, List.getD_eq_getElem?_getD, List.getElem?_eq_getElem (by omega), List.getElem?_eq_getElem hi]
  exact List.pairwise_iff_getElem.1 (rdS_lt l) k i (by omega) hi (by omega)
theorem rdX_get {g : Ex} (h : 4 ≤ g.op ∧ g.op ≤ 10) {k : Nat} (hk : k < 2) (hl : k < g.a.length) {x : Int} (hx : x ∈ rdX (g.a.getD k exNone)) : x ∈ rdX g := by
  rw [rdX_no (by omega)]
  unfold rdL opnds
  rw [if_pos h, List.mem_flatten]
  refine ⟨_, List.mem_map.2 ⟨g.a.getD k exNone, ?_, rfl⟩, hx⟩
  rw [List.getD_eq_getElem?_getD, List.getElem?_eq_getElem hl]
  exact List.mem_take_iff_getElem.2 ⟨k, by omega, rfl⟩
/-- An expression's value depends on what it reads alone. -/
theorem ev_same {vs vs' ls : List Int} : ∀ {g : Ex}, (∀ x ∈ rdX g, getI vs x = getI vs' x) → evalE vs ls g = evalE vs' ls g
  | .mk op n v a, h => by
    rw [evalE_eq, evalE_eq vs']
    show (if op = 1 then wrap32 v else if op = 2 then wrap32 (getI vs n) else if op = 3 then wrap32 (getI ls n) else if op < 4 ∨ 10 < op then 0 else opV op (evalE vs ls (getE a 0)) (evalE vs ls (getE a 1))) =
      (if op = 1 then wrap32 v else if op = 2 then wrap32 (getI vs' n) else if op = 3 then wrap32 (getI ls n) else if op < 4 ∨ 10 < op then 0 else opV op (evalE vs' ls (getE a 0)) (evalE vs' ls (getE a 1)))
    by_cases h2 : op = 2
    · have : getI vs n = getI vs' n := by
        by_cases hn : 0 ≤ n
        · exact h n (by rw [rdX_yes (g := .mk op n v a) h2 hn]; simp [Ex.n])
        · unfold getI; rw [if_neg hn, if_neg hn]
      rw [this, if_neg (show ¬ op = 1 by omega), if_neg (show ¬ op = 1 by omega), if_pos h2, if_pos h2]
    · by_cases hc : op < 4 ∨ 10 < op
      · rw [if_neg h2, if_neg h2, if_pos hc, if_pos hc]
      · have one : ∀ k : Nat, k < 2 → evalE vs ls (getE a (k : Int)) = evalE vs' ls (getE a (k : Int)) := fun k hk => by
          rw [getE_getD]
          by_cases hl : k < a.length
          · exact ev_same fun x hx => h x (rdX_get (g := .mk op n v a) (by show 4 ≤ op ∧ op ≤ 10; omega) hk hl hx)
          · rw [getD_no hl, evalE_none, evalE_none]
        rw [show getE a 0 = getE a ((0 : Nat) : Int) from rfl, show getE a 1 = getE a ((1 : Nat) : Int) from rfl, one 0 (by omega), one 1 (by omega), if_neg h2, if_neg h2]
termination_by g => g.nodes
decreasing_by exact nodes_get (e := .mk op n v a) hl
theorem rdC_getA {c : Co} (h : c.op = 2 ∨ c.op = 3 ∨ c.op = 4) {k : Nat} (hk : k < 2) (hl : k < c.a.length) {x : Int} (hx : x ∈ rdX (c.a.getD k exNone)) : x ∈ rdC c := by
  rw [rdC_eq, List.mem_append]
  left
  unfold rdL partsA
  rw [if_pos h, List.mem_flatten]
  refine ⟨_, List.mem_map.2 ⟨c.a.getD k exNone, ?_, rfl⟩, hx⟩
  rw [List.getD_eq_getElem?_getD, List.getElem?_eq_getElem hl]
  exact List.mem_take_iff_getElem.2 ⟨k, by omega, rfl⟩
theorem rdC_getC {c : Co} {k n : Nat} (h : partsC c = c.c.take n) (hk : k < n) (hl : k < c.c.length) {x : Int} (hx : x ∈ rdC (c.c.getD k coNone)) : x ∈ rdC c := by
  rw [rdC_eq, List.mem_append]
  right
  unfold rdLC
  rw [h, List.mem_flatten]
  refine ⟨_, List.mem_map.2 ⟨c.c.getD k coNone, ?_, rfl⟩, hx⟩
  rw [List.getD_eq_getElem?_getD, List.getElem?_eq_getElem hl]
  exact List.mem_take_iff_getElem.2 ⟨k, by omega, rfl⟩
/-- The same of conditions. -/
theorem holds_same {vs vs' ls : List Int} (c : Co) (h : ∀ x ∈ rdC c, getI vs x = getI vs' x) : holdsC vs ls c = holdsC vs' ls c := by
  have oneA : (c.op = 2 ∨ c.op = 3 ∨ c.op = 4) → ∀ k : Nat, k < 2 → evalE vs ls (getE c.a (k : Int)) = evalE vs' ls (getE c.a (k : Int)) := fun ho k hk => by
    rw [getE_getD]
    by_cases hl : k < c.a.length
    · exact ev_same fun x hx => h x (rdC_getA ho hk hl hx)
    · rw [getD_no hl, evalE_none, evalE_none]
  have oneC : ∀ n : Nat, partsC c = c.c.take n → ∀ k : Nat, k < n → holdsC vs ls (getC c.c (k : Int)) = holdsC vs' ls (getC c.c (k : Int)) := fun n ho k hk => by
    rw [getC_getD]
    by_cases hl : k < c.c.length
    · exact holds_same _ fun x hx => h x (rdC_getC ho hk hl hx)
    · rw [getD_no hl, holdsC_none, holdsC_none]
  rw [holdsC_eq, holdsC_eq vs']
  rw [show getE c.a 0 = getE c.a ((0 : Nat) : Int) from rfl, show getE c.a 1 = getE c.a ((1 : Nat) : Int) from rfl, show getC c.c 0 = getC c.c ((0 : Nat) : Int) from rfl, show getC c.c 1 = getC c.c ((1 : Nat) : Int) from rfl]
  by_cases h1 : c.op = 1
  · rw [if_pos h1, if_pos h1]
  by_cases ha : c.op = 2 ∨ c.op = 3 ∨ c.op = 4
  · rw [oneA ha 0 (by omega), oneA ha 1 (by omega)]
    have h5 : ¬ c.op = 5 := by omega
    have h6 : ¬ c.op = 6 := by omega
    have h7 : ¬ c.op = 7 := by omega
    simp only [h5, h6, h7, if_false]
  · have n2 : ¬ c.op = 2 := by omega
    have n3 : ¬ c.op = 3 := by omega
    have n4 : ¬ c.op = 4 := by omega
    simp only [h1, n2, n3, n4, if_false]
    by_cases h5 : c.op = 5
    · rw [if_pos h5, if_pos h5, oneC 1 (by unfold partsC; rw [if_pos h5]) 0 (by omega)]
    · rw [if_neg h5, if_neg h5]
      by_cases h6 : c.op = 6
      · rw [if_pos h6, if_pos h6, oneC 2 (by unfold partsC; rw [if_neg h5, if_pos (.inl h6)]) 0 (by omega), oneC 2 (by unfold partsC; rw [if_neg h5, if_pos (.inl h6)]) 1 (by omega)]
      · rw [if_neg h6, if_neg h6]
        by_cases h7 : c.op = 7
        · rw [if_pos h7, if_pos h7, oneC 2 (by unfold partsC; rw [if_neg h5, if_pos (.inr h7)]) 0 (by omega), oneC 2 (by unfold partsC; rw [if_neg h5, if_pos (.inr h7)]) 1 (by omega)]
        · rw [if_neg h7, if_neg h7]
termination_by c.nodes
decreasing_by exact nodes_getC hl
end Go.Proofs.Ytfhfdenmcneamaa
